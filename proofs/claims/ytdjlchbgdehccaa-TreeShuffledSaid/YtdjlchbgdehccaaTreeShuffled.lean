/- TreeShuffled: a loose tree whose nodes are turned round, and whose files are numbered the other way, is put in order as itself; its Bytes tell it. -/
import Derived.Test.YtdjlchbgdehccaaShufP
import Derived.Test.YtdjlchbgdehccaaCanonL
import Derived.Test.YtdjlchbgdehccaaBytesA
import Derived.Test.YtdjlchbgdehccaaSame
import Derived.Test.YtdjlchbgdehccaaBig
import Derived.Test.YtdjlchbgdehccaaAliveT
import Derived.Test.YtdjlchbgdehccaaOpenT
import Derived.Deep.DeepCutAuto
namespace Go.Proofs.Ytdjlchbgdehccaa.treeShuffledDone
open Go.ChangeShapes Go.WideShapes Go.ChangeAt Go.ChangeMaps Go.RowKit Go.Deep

/-- A list turned round by s. -/
def rotL {α : Type} (l : List α) (s : Nat) : List α := l.drop s ++ l.take s
theorem rotL_len {α : Type} (l : List α) (s : Nat) : (rotL l s).length = l.length := by unfold rotL; simp; omega
theorem rotL_perm {α : Type} (l : List α) (s : Nat) : (rotL l s).Perm l := by
  unfold rotL
  have h := List.perm_append_comm (l₁ := l.drop s) (l₂ := l.take s)
  rwa [List.take_append_drop] at h
theorem rotL_get {α : Type} {l : List α} {i r n : Nat} (hl : l.length = n) (hi : i < n) : (rotL l (r % n))[i]? = l[(i + r) % n]? := by
  have hs : r % n < n := Nat.mod_lt _ (by omega)
  have he : (i + r) % n = (i + r % n) % n := (Nat.add_mod_mod i r n).symm
  rw [he]
  unfold rotL
  by_cases h : i < n - r % n
  · rw [List.getElem?_append_left (by rw [List.length_drop]; omega), List.getElem?_drop, Nat.mod_eq_of_lt (show i + r % n < n by omega), Nat.add_comm]
  · rw [List.getElem?_append_right (by rw [List.length_drop]; omega), List.length_drop, hl, List.getElem?_take, if_pos (by omega), Nat.mod_eq_sub_mod (a := i + r % n) (b := n) (by omega), Nat.mod_eq_of_lt (show i + r % n - n < n by omega)]
    congr 1
    omega
theorem last3 (s : ByteArray) (m k : Int) : ∀ u ∈ (#[.string s, .int .i64 m, .int .i64 k] : Array Value).toList, u.oneCell' = true := by
  intro u hu
  simp only [List.mem_cons, List.not_mem_nil, or_false] at hu
  rcases hu with rfl | rfl | rfl <;> rfl
theorem dat_small' {w : World} {t : TV} {ds : List ByteArray} (h : TreeD w t ds) (G : Good t) : ∀ d ∈ ds, d.size ≤ 8192 := fun d hd => by
  obtain ⟨k, hk⟩ := List.getElem?_of_mem hd
  have hkl : k < t.files.length := by rw [← h.dat.len]; exact (List.getElem?_eq_some_iff.1 hk).1
  have := (h.dat.at_ k _ d (List.getElem?_eq_getElem hkl) hk).1
  rw [this]
  exact G.small _ (List.getElem_mem hkl)
theorem filesI_congr : ∀ (fs gs : List FC) (ds : List ByteArray), fs.map (·.mode) = gs.map (·.mode) → filesI fs ds = filesI gs ds
  | [], [], _, _ => rfl
  | [], _ :: _, _, h => by simp at h
  | _ :: _, [], _, h => by simp at h
  | _ :: _, _ :: _, [], _ => rfl
  | f :: fs, g :: gs, d :: ds, h => by
    simp only [List.map_cons, List.cons.injEq] at h
    unfold filesI
    rw [h.1, filesI_congr fs gs ds h.2]
theorem treeI_congr {t u : TV} {ds es : List ByteArray} (h : exactB t u ds es = true) : treeI t ds = treeI u es := by
  unfold exactB at h
  simp only [Bool.and_eq_true, decide_eq_true_eq] at h
  obtain ⟨h1, h2, h3⟩ := h
  have hl : t.files.length = u.files.length := by have := congrArg List.length h2; simpa using this
  unfold treeI
  rw [h1, h3, hl, filesI_congr _ _ _ h2]
theorem tree_str_eq {w w' : World} {t u : TV} {ds es : List ByteArray} (ht : TreeD w t ds) (hu : TreeD w' u es) (G : Good t) (H : Good u) : ((strOfNums (treeI t ds)).toList == (strOfNums (treeI u es)).toList) = exactB t u ds es := by
  cases hx : exactB t u ds es
  · exact tree_str ht.dat.len hu.dat.len (treeI_range G ht.tree.nl ht.tree.fl (dat_small' ht G)) (treeI_range H hu.tree.nl hu.tree.fl (dat_small' hu H)) hx
  · rw [treeI_congr hx]; simp
structure ShN (w wr : World) (base ub k : Nat) (nodes : List Node) (s : Nat) (g : Int → Int) (tb : Nat) (tv ov : Array Value) : Prop where
  it : ∃ (NU : Option Addr) (nc' : Nat), Blk wr ub 26 #[.slice NU k nc', .slice none 0 0] ∧ wr.ownsRow base 29 3 (.slice NU k nc') k ((((rotL nodes s).take k).map (turnN g)).flatMap Node.list)
  b1 : Blk wr tb 26 tv
  b2 : Blk wr (tb + 1) 26 ov
  sz : base ≤ wr.heap.size
  below : Below w.heap.size w wr
structure ShF (w wr : World) (base ub nn j : Nat) (nodes : List Node) (s : Nat) (g : Int → Int) (files : List FC) (NU : Option Addr) (nc' : Nat) (tb : Nat) (tv ov : Array Value) : Prop where
  it : ∃ (FU : Option Addr) (fc' : Nat), Blk wr ub 26 #[.slice NU nn nc', .slice FU j fc'] ∧ wr.ownsRow base 39 2 (.slice FU j fc') j ((files.reverse.take j).flatMap FC.list)
  nod : wr.ownsRow base 29 3 (.slice NU nn nc') nn (((rotL nodes s).map (turnN g)).flatMap Node.list)
  b1 : Blk wr tb 26 tv
  b2 : Blk wr (tb + 1) 26 ov
  sz : base ≤ wr.heap.size
  below : Below w.heap.size w wr
theorem dat_rev {w : World} {fs : List FC} {ds : List ByteArray} (h : DatAt w fs ds) : DatAt w fs.reverse ds.reverse :=
  ⟨by rw [List.length_reverse, List.length_reverse]; exact h.len, fun k x d hx hd => by
    have h1 : k < fs.length := by have := (List.getElem?_eq_some_iff.1 hx).1; rwa [List.length_reverse] at this
    have h2 := h.len
    rw [List.getElem?_reverse h1] at hx
    rw [List.getElem?_reverse (by omega), h2] at hd
    exact h.at_ _ x d hx hd⟩
set_option maxRecDepth 100000 in
set_option maxHeartbeats 8000000 in
theorem walk (t : TV) (ds : List ByteArray) (o : TV) (os : List ByteArray) (by_ : Int) (w : World) (hT : TreeD w t ds) (hO : TreeD w o os) (hw : (Lit.int .i64 by_).wf = true) :
    Calls Try.prog 13 #[t.val, o.val, .int .i64 by_] w fun e w' => e = .returned (.bool true) ∧ Below w.heap.size w w' := by
  have hby : by_ ≤ 9223372036854775807 := by
    have h2 : IntKind.i64.max = 9223372036854775807 := by decide
    simp only [Lit.wf, h2, Bool.and_eq_true, decide_eq_true_eq] at hw
    exact hw.2
  clear hw
  have HTD := Lib.hid hT; have HOD := Lib.hid hO
  have hns := hT.tree.ns; have hnl := hT.tree.nl; have hfs := hT.tree.fs; have hfl := hT.tree.fl; have hdl := hT.dat.len
  have HS := Lib.hid hns; have HFS := Lib.hid hfs; have Hdl := Lib.hid hdl
  clear hT hO hns hfs hdl
  obtain ⟨E, hE⟩ : ∃ E, looseE t = E := ⟨_, rfl⟩
  have HE := Lib.hid hE
  have HG0 := Lib.hid (show E = 0 → Good t from fun h => good_of_loose (hE.trans h))
  clear hE
  obtain ⟨F, hF⟩ : ∃ F, looseE o = F := ⟨_, rfl⟩
  have HF := Lib.hid hF
  clear hF
  obtain ⟨nodes, files, NA, nn, nc, FA, fn, fc⟩ := t
  obtain ⟨nodes', files', NB, mn, mc, FB, fm, md⟩ := o
  simp only at hnl hfl HS HFS
  have Hn := Lib.hid hnl; have Hf := Lib.hid hfl; clear hnl hfl
  unfold TV.val
  have hB1 := (Blk.new w 26 #[.slice NA nn nc, .slice FA fn fc]).alloc (.cells #[.slice NB mn mc, .slice FB fm md] 26)
  have hB2 := Blk.new (w.alloc (.cells #[.slice NA nn nc, .slice FA fn fc] 26)) 26 #[.slice NB mn mc, .slice FB fm md]
  rw [World.size_alloc] at hB2
  have hb := ((Below.refl w.heap.size w).alloc (Nat.le_refl _) (.cells #[.slice NA nn nc, .slice FA fn fc] 26)).alloc (by simp) (.cells #[.slice NB mn mc, .slice FB fm md] 26)
  have b0 := hB1.cell 0
  have b1 := hB1.cell 1
  have b2 := hB2.cell 0
  have b3 := hB2.cell 1
  have tok1 : True := trivial
  go_enter Try.func13, Try.ntmps13
  go_upto_region 4 with (first | (go_at_call 14; refine (alive_t _).mono ?_; rintro e w1 ⟨rfl, hb1⟩; replace hB1 := hB1.below hb1 hB1.lt; replace hB2 := hB2.below hb1 hB2.lt; replace hb := hb.trans (hb1.mono hb.size); have b0 := hB1.cell 0; have b1 := hB1.cell 1; have b2 := hB2.cell 0; have b3 := hB2.cell 1) | (go_at_call 19; have _t := tok1; refine (lbig_any ⟨nodes, files, NA, nn, nc, FA, fn, fc⟩ _ (HTD.out.tree.keep hb)).mono ?_; rintro e w2 ⟨x, rfl, _, hb2⟩; replace hB1 := hB1.below hb2 hB1.lt; replace hB2 := hB2.below hb2 hB2.lt; replace hb := hb.trans (hb2.mono hb.size); have b0 := hB1.cell 0; have b1 := hB1.cell 1; have b2 := hB2.cell 0; have b3 := hB2.cell 1; clear tok1 _t) | (go_at_call 19; refine (lbig_any ⟨nodes', files', NB, mn, mc, FB, fm, md⟩ _ (HOD.out.tree.keep hb)).mono ?_; rintro e w3 ⟨y, rfl, _, hb3⟩; replace hB1 := hB1.below hb3 hB1.lt; replace hB2 := hB2.below hb3 hB2.lt; replace hb := hb.trans (hb3.mono hb.size); have b0 := hB1.cell 0; have b1 := hB1.cell 1; have b2 := hB2.cell 0; have b3 := hB2.cell 1))
  cases x
  rotate_left
  · go_wp2
    go_ret
    exact ⟨rfl, hb⟩
  cases y
  rotate_left
  · go_wp2
    go_ret
    exact ⟨rfl, hb⟩
  by_cases h0 : by_ < 0
  · go_wp2
    go_ret
    exact ⟨rfl, hb⟩
  obtain ⟨m, rfl⟩ := Int.eq_ofNat_of_zero_le (show 0 ≤ by_ by omega)
  by_cases e1 : E = 0
  case neg =>
    have e2 : (E == 0) = false := beq_eq_false_iff_ne.2 e1
    have e3 : (E != 0) = true := bne_iff_ne.2 e1
    clear HG0
    go_wp2_with (first | (go_at_call 16; refine (loose_any ⟨nodes, files, NA, nn, nc, FA, fn, fc⟩ _ (HTD.out.tree.keep hb)).mono ?_; rintro e w4 ⟨rfl, hb4⟩; rw [HE.out]) | (go_at_call 18; refine (numT _ _).mono ?_; rintro e w6 ⟨rfl, rfl⟩))
    go_ret
    exact ⟨rfl, hb.trans (hb4.mono hb.size)⟩
  have HG := Lib.hid (HG0.out e1)
  have HL := Lib.hid (HE.out.trans e1)
  have hn256 : nn ≤ 256 := HG.out.nn
  have hf256 : fn ≤ 256 := HG.out.fn
  have e2 : (E == 0) = true := beq_iff_eq.2 e1
  have e3 : (E != 0) = false := by rw [bne, e2]; rfl
  clear HG0
  replace e1 := Lib.hid e1
  have hBl1 := hB1.lt; have hBl2 := hB2.lt
  go_upto_region 6 with (first | (go_at_call 16; refine (loose_any ⟨nodes, files, NA, nn, nc, FA, fn, fc⟩ _ (HTD.out.tree.keep hb)).mono ?_; rintro e w4 ⟨rfl, hb4⟩; rw [HE.out]; replace hB1 := hB1.below hb4 hBl1; replace hB2 := hB2.below hb4 hBl2; replace hb := hb.trans (hb4.mono hb.size); have b0 := hB1.cell 0) | (go_at_call 18; refine (numT _ _).mono ?_; rintro e w6 ⟨rfl, hw⟩; rw [hw]; clear hw))
  have hs4 := hb4.size
  have hBl4 := hB2.lt
  obtain ⟨r, hr⟩ : ∃ r, m % (nn + 1) = r := ⟨_, rfl⟩
  have hrn : r ≤ nn := Nat.le_of_lt_succ (by rw [← hr]; exact Nat.mod_lt m (Nat.succ_pos nn))
  have HR := Lib.hid (show (m : Int) % ((nn : Int) + 1) = (r : Int) by rw [← hr, Int.natCast_emod, Int.natCast_add]; rfl)
  clear hr
  clear b1 b2 b3 hb1 hb2 hb3 hb4
  go_upto_region 7 with (fail)
  have hU := Blk.new w4 26 #[.slice none 0 0, .slice none 0 0]
  obtain ⟨ub, hub⟩ : ∃ ub, w4.heap.size = ub := ⟨_, rfl⟩
  rw [hub] at hBl4
  have H0 : ShN w (w4.alloc (.cells #[.slice none 0 0, .slice none 0 0] 26)) ub ub 0 nodes (r % nn) (fun i => (fn : Int) - 1 - i) w.heap.size #[.slice NA nn nc, .slice FA fn fc] #[.slice NB mn mc, .slice FB fm md] :=
    ⟨⟨none, 0, by rw [← hub]; exact hU, World.ownsRow_nil _ _ _ _⟩, hB1.alloc _, hB2.alloc _, by rw [World.size_alloc]; omega, hb.alloc hb.size _⟩
  have b0' := (hB1.alloc (.cells #[.slice none 0 0, .slice none 0 0] 26)).cell 0
  try rw [hub]
  obtain ⟨W5, hW5⟩ : ∃ W, w4.alloc (.cells #[.slice none 0 0, .slice none 0 0] 26) = W := ⟨_, rfl⟩
  rw [hW5] at H0 b0' ⊢
  clear hW5 hub hU hs4 hBl1 hBl2 hB1 hB2 hb b0
  have H0' := Lib.hid H0; clear H0
  go_wp2
  clear b0'
  go_loopw [12] (fun v wr => ∃ k : Nat, k ≤ nn ∧ v = .int .i64 k ∧ ShN w wr ub ub k nodes (r % nn) (fun i => (fn : Int) - 1 - i) w.heap.size #[.slice NA nn nc, .slice FA fn fc] #[.slice NB mn mc, .slice FB fm md]) (fun v _ => nn - (intOf v).toNat)
  case atStart => exact ⟨0, Nat.zero_le _, rfl, H0'.out⟩
  case round =>
    clear H0'
    obtain ⟨k, hk, rfl, ⟨NU, nc', hU, hoN⟩, hB1, hB2, hsz, hb⟩ := hrel
    have HoN := Lib.hid hoN; clear hoN
    have hUl := hU.lt; have hBl1 := hB1.lt; have hBl2 := hB2.lt
    have b0 := hB1.cell 0; have b1 := hB1.cell 1
    by_cases hlt : k < nn
    · have hki : (k : Int) < nn := by omega
      have hneU : ¬ some ub = blkOf NU := hU.ne_row HoN.out (by decide)
      obtain ⟨q, hq⟩ : ∃ q, (k + r) % nn = q := ⟨_, rfl⟩
      have hqn : q < nn := by rw [← hq]; exact Nat.mod_lt _ (by omega)
      obtain ⟨xb, xo, x, rfl, hxb, hx, hc⟩ := (HS.out.keep (Nat.le_refl _) hb.block).get Node.len Hn.out hqn
      have c0 := hc 0 _ rfl
      have c1 := hc 1 _ rfl
      have c2 := hc 2 _ rfl
      simp only [Nat.add_zero] at c0 c1 c2
      have hxr : (rotL nodes (r % nn))[k]? = some x := by rw [rotL_get Hn.out hlt, hq]; exact hx
      have HX := Lib.hid hx; have HXR := Lib.hid hxr
      clear hx hxr hc
      have hxw : xb < wr.heap.size := by have := hb.size; omega
      go_upto_region 11 with (fail)
      have hmr := HR.out
      have hkq : ((k : Int) + (r : Int)) % (nn : Int) = (q : Int) := by rw [← hq, Int.natCast_emod, Int.natCast_add]
      refine wp_region_ordB (none) [(0, true), (1, true), (2, true), (3, true), (4, true), (5, true), (6, true), (7, true), (8, true), (9, true), (10, true), (11, true), (12, false), (13, false)] (by kernel_rfl) (by kernel_rfl) fun hG0 => ?_
      repeat (first
        | (refine ord_skipB rfl (by rfl) ?_; simp only [Act.put, List.setIfInBounds_toArray, List.set_cons_zero, List.set_cons_succ])
        | (refine ord_qE rfl (by rfl) ?_; apply Exists.intro; refine ⟨fun w' hc' => ?_, ?_⟩; (focus (go_simp; (try go_bits); (try simp only [↓IntWalk.iteOmega]); with_reducible rfl)); simp only [Act.put, List.setIfInBounds_toArray, List.set_cons_zero, List.set_cons_succ]))
      refine ord_eB rfl fun K hK => ?_
      go_wp2_with (fail)
      have hG1 := grown_trans hG0 (World.grownBy_alloc wr.drew (.cells #[.string ByteArray.empty, .int .i64 0, .int .i64 0] 29) none)
      refine hK.out _ _ hG1 ?_
      clear hK K
      repeat (first
        | (refine ord_skipB rfl (by rfl) ?_; simp only [Act.put, List.setIfInBounds_toArray, List.set_cons_zero, List.set_cons_succ])
        | (refine ord_qE rfl (by rfl) ?_; apply Exists.intro; refine ⟨fun w' hc' => ?_, ?_⟩; (focus (go_simp; (try go_bits); (try simp only [↓IntWalk.iteOmega]); with_reducible rfl)); simp only [Act.put, List.setIfInBounds_toArray, List.set_cons_zero, List.set_cons_succ]))
      refine ord_eB rfl fun K hK => ?_
      go_wp2_with (fail)
      have hG2 := grown_trans hG0 (World.grownBy_alloc wr.drew (.cells #[.string x.path, .int .i64 x.file, .int .i64 x.mode] 29) none)
      refine hK.out _ _ hG2 ?_
      clear hK K
      repeat (first
        | (refine ord_skipB rfl (by rfl) ?_; simp only [Act.put, List.setIfInBounds_toArray, List.set_cons_zero, List.set_cons_succ])
        | (refine ord_qE rfl (by rfl) ?_; apply Exists.intro; refine ⟨fun w' hc' => ?_, ?_⟩; (focus (go_simp; (try go_bits); (try simp only [↓IntWalk.iteOmega]); with_reducible rfl)); simp only [Act.put, List.setIfInBounds_toArray, List.set_cons_zero, List.set_cons_succ]))
      refine ord_end ?_
      have hG2' : wr.grownBy (wr.alloc (.cells #[.string x.path, .int .i64 x.file, .int .i64 x.mode] 29)).drew none := hG2
      clear hmr hkq c0 c1 c2 hG0 hG1 hG2
      have hG2 := hG2'; clear hG2'
      have hA : Blk (wr.alloc (.cells #[.string x.path, .int .i64 x.file, .int .i64 x.mode] 29)).drew wr.heap.size 29 #[.string x.path, .int .i64 x.file, .int .i64 x.mode] := Blk.new wr 29 #[.string x.path, .int .i64 x.file, .int .i64 x.mode]
      have hU1 := hU.grown hG2 (by simp); have hB11 := hB1.grown hG2 (by simp); have hB21 := hB2.grown hG2 (by simp)
      have HN1 := Lib.hid (own_keep HoN.out fun g o e => hG2.block g (own_lt2 (by rw [← e]; exact HoN.out)).2.1 (by simp))
      have hbx := hb.trans (below_grown hG2 hb.size (fun g e => by cases e))
      have hsz1 := Nat.le_trans hsz hG2.size
      obtain ⟨W1, hW1⟩ : ∃ W, (wr.alloc (.cells #[.string x.path, .int .i64 x.file, .int .i64 x.mode] 29)).drew = W := ⟨_, rfl⟩
      rw [hW1] at hA hU1 hB11 hB21 HN1 hbx hsz1 ⊢
      obtain ⟨gb, hgb⟩ : ∃ g, wr.heap.size = g := ⟨_, rfl⟩
      have HLo := Lib.hid (show ∀ g o, NU = some ⟨g, o, none⟩ → g < gb from fun g o e => by rw [← hgb]; exact (own_lt2 (by rw [← e]; exact HoN.out)).2.1)
      have hne1 : ub ≠ gb := by omega
      have hgw : w.heap.size + 1 < gb := by omega
      have hne2 : w.heap.size ≠ gb := by omega
      have hne3 : w.heap.size + 1 ≠ gb := by omega
      rw [hgb] at hA ⊢
      clear hW1 hgb hG2 HoN hU hB1 hB2 hb hsz b0 b1 hneU
      have hUl := hU1.lt; have hBl1 := hB11.lt; have hAl := hA.lt
      have b1 := hB11.cell 1
      have a0 := hA.cell 0; have a1 := hA.cell 1; have a2 := hA.cell 2; have a1f := hA.frozen 1
      have hkind := HG.out.kind x (List.mem_of_getElem? HX.out)
      simp only at hkind
      have hmid : ∃ (yf : Int), turnN (fun i => (fn : Int) - 1 - i) x = ⟨x.path, yf, x.mode, x.hp⟩ ∧ ((x.file = -1 ∧ yf = x.file) ∨ (0 ≤ x.file ∧ x.file < fn ∧ yf = (fn : Int) - 1 - x.file)) := by
        rcases hkind with ⟨e, _⟩ | ⟨h1, h2, _⟩
        · exact ⟨x.file, by unfold turnN; rw [if_pos (by omega)], .inl ⟨e, rfl⟩⟩
        · exact ⟨(fn : Int) - 1 - x.file, by unfold turnN; rw [if_neg (by omega)], .inr ⟨h1, h2, rfl⟩⟩
      obtain ⟨yf, hyf, hyc⟩ := hmid
      have HYF := Lib.hid hyf
      clear hkind hyf
      rcases hyc with ⟨h1, h2⟩ | ⟨h1, h2, h3⟩
      · rw [← h2] at hA
        clear a0 a1 a2
        have f1 : (yf == -1) = true := by rw [h2, h1]; rfl
        have f2 : (yf != -1) = false := by rw [bne, f1]; rfl
        have H2 := Lib.hid h2
        clear h1 h2 a1f
        have hneU : ¬ some ub = blkOf NU := hU1.ne_row HN1.out (by decide)
        have u0 := hU1.cell 0
        have a0 := hA.cell 0; have a1 := hA.cell 1; have a2 := hA.cell 2
        go_wp2_with (at_builtin; refine wpList_append_one rfl _ _ _ rfl Try.nodeT rfl HN1.out #[.string x.path, .int .i64 yf, .int .i64 x.mode] rfl (by first | rfl | simp) rfl (last3 _ _ _) (by unfold maxLen; omega) (by omega) hsz1 ?_; intro g6 c6 w6 ho6 hg6 hat6; have hU6 := hU1.grown hg6 hneU; have q1 := hU6.cell 0; have q1f := hU6.frozen 0)
        have HO6 := Lib.hid ho6
        have HFS2 := Lib.hid (show (((rotL nodes (r % nn)).take (k + 1)).map (turnN (fun i => (fn : Int) - 1 - i))).flatMap Node.list = (((rotL nodes (r % nn)).take k).map (turnN (fun i => (fn : Int) - 1 - i))).flatMap Node.list ++ [.string x.path, .int .i64 yf, .int .i64 x.mode] by rw [take_snoc' HXR.out, List.map_append, List.flatMap_append, List.map_singleton, HYF.out]; rfl)
        have hB16 := hB11.grown hg6 (hB11.ne_row HN1.out (by decide)); have hB26 := hB21.grown hg6 (hB21.ne_row HN1.out (by decide))
        have hb6 := hbx.trans (below_grown hg6 hbx.size (fun g e => by have := own_blk1 HN1.out g e; omega))
        have hsz6 := hg6.size
        clear q1 q1f u0 a0 a1 a2 ho6 hg6 hat6
        go_roundw
        case rel => exact ⟨k + 1, by omega, by go_num, ⟨⟨some ⟨g6, 0, none⟩, c6, hU6.set 0 _, by rw [HFS2.out]; exact own_blkset HO6.out hU6 (by decide) _ _⟩, hB16.set_ne _ _ (by show w.heap.size ≠ ub; omega), hB26.set_ne _ _ (by show w.heap.size + 1 ≠ ub; omega), by simp [World.setCell]; omega, hb6.setCell (p := ⟨ub, 0, none⟩) (by show w.heap.size ≤ ub; omega) _⟩⟩
        case measure => simp [intOf]; omega
      · have f1 : (x.file == -1) = false := beq_eq_false_iff_ne.2 (by omega)
        have f2 : (x.file != -1) = true := by rw [bne, f1]; rfl
        have H3 := Lib.hid h3; clear h3
        go_upto_region 14 with (fail)
        rw [← H3.out]
        clear a0 a1 a2 a1f f1 f2 b1
        have hA2 : Blk (W1.setCell ⟨gb, 1, none⟩ (.int .i64 yf)) gb 29 #[.string x.path, .int .i64 yf, .int .i64 x.mode] := hA.set 1 (.int .i64 yf)
        replace HN1 := Lib.hid (own_keep HN1.out fun g o e => heap_setCell_other W1 ⟨gb, 1, none⟩ g (.int .i64 yf) (fun e2 => by have := HLo.out g o e; simp only at e2; omega))
        replace hU1 := hU1.set_ne ⟨gb, 1, none⟩ (.int .i64 yf) hne1
        replace hB11 := hB11.set_ne ⟨gb, 1, none⟩ (.int .i64 yf) hne2
        replace hB21 := hB21.set_ne ⟨gb, 1, none⟩ (.int .i64 yf) hne3
        replace hbx := hbx.setCell (p := ⟨gb, 1, none⟩) (show w.heap.size ≤ gb by omega) (.int .i64 yf)
        replace hsz1 : ub ≤ (W1.setCell ⟨gb, 1, none⟩ (.int .i64 yf)).heap.size := by simp [World.setCell]; omega
        replace hUl := hU1.lt; replace hBl1 := hB11.lt; replace hAl := hA2.lt
        obtain ⟨W2, hW2⟩ : ∃ W, W1.setCell ⟨gb, 1, none⟩ (.int .i64 yf) = W := ⟨_, rfl⟩
        rw [hW2] at hA2 HN1 hU1 hB11 hB21 hbx hsz1 hUl hBl1 hAl ⊢
        clear hW2 hA
        have hA := hA2; clear hA2
        have hneU : ¬ some ub = blkOf NU := hU1.ne_row HN1.out (by decide)
        have u0 := hU1.cell 0
        have a0 := hA.cell 0; have a1 := hA.cell 1; have a2 := hA.cell 2
        go_wp2_with (at_builtin; refine wpList_append_one rfl _ _ _ rfl Try.nodeT rfl HN1.out #[.string x.path, .int .i64 yf, .int .i64 x.mode] rfl (by first | rfl | simp) rfl (last3 _ _ _) (by unfold maxLen; omega) (by omega) hsz1 ?_; intro g6 c6 w6 ho6 hg6 hat6; have hU6 := hU1.grown hg6 hneU; have q1 := hU6.cell 0; have q1f := hU6.frozen 0)
        have HO6 := Lib.hid ho6
        have HFS2 := Lib.hid (show (((rotL nodes (r % nn)).take (k + 1)).map (turnN (fun i => (fn : Int) - 1 - i))).flatMap Node.list = (((rotL nodes (r % nn)).take k).map (turnN (fun i => (fn : Int) - 1 - i))).flatMap Node.list ++ [.string x.path, .int .i64 yf, .int .i64 x.mode] by rw [take_snoc' HXR.out, List.map_append, List.flatMap_append, List.map_singleton, HYF.out]; rfl)
        have hB16 := hB11.grown hg6 (hB11.ne_row HN1.out (by decide)); have hB26 := hB21.grown hg6 (hB21.ne_row HN1.out (by decide))
        have hb6 := hbx.trans (below_grown hg6 hbx.size (fun g e => by have := own_blk1 HN1.out g e; omega))
        have hsz6 := hg6.size
        clear q1 q1f u0 a0 a1 a2 ho6 hg6 hat6
        go_roundw
        case rel => exact ⟨k + 1, by omega, by go_num, ⟨⟨some ⟨g6, 0, none⟩, c6, hU6.set 0 _, by rw [HFS2.out]; exact own_blkset HO6.out hU6 (by decide) _ _⟩, hB16.set_ne _ _ (by show w.heap.size ≠ ub; omega), hB26.set_ne _ _ (by show w.heap.size + 1 ≠ ub; omega), by simp [World.setCell]; omega, hb6.setCell (p := ⟨ub, 0, none⟩) (by show w.heap.size ≤ ub; omega) _⟩⟩
        case measure => simp [intOf]; omega
    · obtain rfl : k = nn := by omega
      have hki : ¬ (k : Int) < k := by omega
      rw [List.take_of_length_le (by rw [rotL_len, Hn.out]; exact Nat.le_refl _)] at HoN
      have hfi : (0 : Int) ≤ fn := by omega
      go_wp2
      have H0 := Lib.hid (show ShF w wr ub ub k 0 nodes (r % k) (fun i => (fn : Int) - 1 - i) files NU nc' w.heap.size #[.slice NA k nc, .slice FA fn fc] #[.slice NB mn mc, .slice FB fm md] from
        ⟨⟨none, 0, hU, World.ownsRow_nil _ _ _ _⟩, HoN.out, hB1, hB2, hsz, hb⟩)
      clear HoN hU hB1 hB2 hsz hb b0 b1 hUl hBl1 hBl2
      go_loopw [14] (fun v wr => ∃ (j : Nat) (z : Int), j ≤ fn ∧ z = (fn : Int) - 1 - j ∧ v = .int .i64 z ∧ ShF w wr ub ub k j nodes (r % k) (fun i => (fn : Int) - 1 - i) files NU nc' w.heap.size #[.slice NA k nc, .slice FA fn fc] #[.slice NB mn mc, .slice FB fm md]) (fun v _ => (intOf v + 1).toNat)
      case atStart => exact ⟨0, _, Nat.zero_le _, by omega, rfl, H0.out⟩
      case round =>
        clear H0
        obtain ⟨j, z, hj, hz, rfl, ⟨FU, fc', hU, hoF⟩, hoN, hB1, hB2, hsz, hb⟩ := hrel
        have HoN := Lib.hid hoN; have HoF := Lib.hid hoF; clear hoN hoF
        have hUl := hU.lt; have hBl1 := hB1.lt; have hBl2 := hB2.lt
        have b1 := hB1.cell 1
        by_cases hlt : j < fn
        · obtain ⟨p, rfl⟩ := Int.eq_ofNat_of_zero_le (show 0 ≤ z by omega)
          have hpf : p < fn := by omega
          have hpi : (0 : Int) ≤ p := by omega
          have hpn : (p : Int) < fn := by omega
          have hpj : fn - 1 - j = p := by omega
          have hneU : ¬ some ub = blkOf FU := hU.ne_row HoF.out (by decide)
          have hneB1 : ¬ some w.heap.size = blkOf FU := hB1.ne_row HoF.out (by decide)
          have hneB2 : ¬ some (w.heap.size + 1) = blkOf FU := hB2.ne_row HoF.out (by decide)
          obtain ⟨xb, xo, x, rfl, hxb, hx, hc⟩ := (HFS.out.keep (Nat.le_refl _) hb.block).get FC.len Hf.out hpf
          have c0 := hc 0 _ rfl
          have c1 := hc 1 _ rfl
          simp only [Nat.add_zero] at c0 c1
          have hxr : files.reverse[j]? = some x := by rw [List.getElem?_reverse (by rw [Hf.out]; exact hlt), Hf.out, hpj]; exact hx
          have HXR := Lib.hid hxr
          have HZ := Lib.hid hz
          have hxw : xb < wr.heap.size := by have := hb.size; omega
          have hneX : ¬ some xb = blkOf FU := fun e => by have := own_blk1 HoF.out xb e.symm; omega
          have u1 := hU.cell 1
          clear hc hx hxr hz hpj
          go_upto_region 18 with (fail)
          refine wp_region_ordG (blkOf FU) [(0, true), (1, true), (2, true), (3, true), (4, true), (5, true), (6, true), (7, false), (8, false), (9, true)] 10 (by kernel_rfl) (by kernel_rfl) fun hG0 => ?_
          repeat (first
            | (refine ord_skipB rfl (by rfl) ?_; simp only [Act.put, List.setIfInBounds_toArray, List.set_cons_zero, List.set_cons_succ])
            | (refine ord_qE rfl (by rfl) ?_; apply Exists.intro; refine ⟨fun w' hc' => ?_, ?_⟩; (focus (go_simp; (try go_bits); (try simp only [↓IntWalk.iteOmega]); with_reducible rfl)); simp only [Act.put, List.setIfInBounds_toArray, List.set_cons_zero, List.set_cons_succ]))
          refine ord_eB rfl fun K hK => ?_
          go_wp2_with (fail)
          have hG1 := grown_trans hG0 (World.grownBy_alloc wr.drew (.cells #[.int .i64 x.mode, .slice x.A x.n x.c] 39) (blkOf FU))
          refine hK.out _ _ hG1 ?_
          clear hK K
          repeat (first
            | (refine ord_skipB rfl (by rfl) ?_; simp only [Act.put, List.setIfInBounds_toArray, List.set_cons_zero, List.set_cons_succ])
            | (refine ord_qE rfl (by rfl) ?_; apply Exists.intro; refine ⟨fun w' hc' => ?_, ?_⟩; (focus (go_simp; (try go_bits); (try simp only [↓IntWalk.iteOmega]); with_reducible rfl)); simp only [Act.put, List.setIfInBounds_toArray, List.set_cons_zero, List.set_cons_succ]))
          refine ord_eB rfl fun K hK => ?_
          go_wp2_with (at_builtin; refine wpList_append_one rfl _ _ _ rfl Try.fileT rfl (own_drew HoF.out) #[.int .i64 x.mode, .slice x.A x.n x.c] rfl (by first | rfl | simp) rfl (file_one _ _ _ _) (by unfold maxLen; omega) (by omega) hsz ?_; intro g6 c6 w6 ho6 hg6 hat6)
          have hG2 := grown_trans hG0 hg6
          refine hK.out _ _ hG2 ?_
          clear hK K
          repeat (first
            | (refine ord_skipB rfl (by rfl) ?_; simp only [Act.put, List.setIfInBounds_toArray, List.set_cons_zero, List.set_cons_succ])
            | (refine ord_qE rfl (by rfl) ?_; apply Exists.intro; refine ⟨fun w' hc' => ?_, ?_⟩; (focus (go_simp; (try go_bits); (try simp only [↓IntWalk.iteOmega]); with_reducible rfl)); simp only [Act.put, List.setIfInBounds_toArray, List.set_cons_zero, List.set_cons_succ]))
          have hU6 := hU.grown hG2 hneU
          have q1 := hU6.cell 1
          have q1f := hU6.frozen 1
          refine ord_tail rfl fun K hK => ?_
          go_wp2_with (fail)
          refine hK.out _ _ ?_
          clear hK K
          have hB16 := hB1.grown hG2 hneB1; have hB26 := hB2.grown hG2 hneB2
          have HN6 := Lib.hid (own_keep HoN.out fun g o e => hG2.block g (own_lt2 (by rw [← e]; exact HoN.out)).2.1 (row_ne_row HoN.out HoF.out (by decide) (by rw [e]; rfl)))
          have hb6 := hb.trans (below_grown hG2 hb.size (fun g e => by have := own_blk1 HoF.out g e; omega))
          have hsz6 := hG2.size
          have HO6 := Lib.hid ho6
          have HFS2 := Lib.hid (show (files.reverse.take (j + 1)).flatMap FC.list = (files.reverse.take j).flatMap FC.list ++ [.int .i64 x.mode, .slice x.A x.n x.c] by rw [take_snoc' HXR.out, List.flatMap_append]; rfl)
          clear q1 q1f u1 c0 c1 b1 hG0 hG1 hG2 hg6 hat6 ho6
          go_wp2
          go_roundw
          case rel => exact ⟨j + 1, (p : Int) - 1, by omega, by have := HZ.out; omega, by go_num, ⟨⟨some ⟨g6, 0, none⟩, c6, hU6.set 1 _, by rw [HFS2.out]; exact own_blkset HO6.out hU6 (by decide) _ _⟩, own_blkset HN6.out hU6 (by decide) _ _, hB16.set_ne _ _ (by show w.heap.size ≠ ub; omega), hB26.set_ne _ _ (by show w.heap.size + 1 ≠ ub; omega), by simp [World.setCell]; omega, hb6.setCell (p := ⟨ub, 1, none⟩) (by show w.heap.size ≤ ub; omega) _⟩⟩
          case measure => simp [intOf] <;> omega
        · obtain rfl : j = fn := by omega
          have hzi : ¬ (0 : Int) ≤ z := by omega
          rw [List.take_of_length_le (by rw [List.length_reverse, Hf.out]; exact Nat.le_refl _)] at HoF
          have hTu : TreeD wr ⟨(rotL nodes (r % k)).map (turnN (fun i => (j : Int) - 1 - i)), files.reverse, NU, k, nc', FU, j, fc'⟩ ds.reverse :=
            ⟨⟨by rw [List.length_map, rotL_len]; exact Hn.out, by rw [List.length_reverse]; exact Hf.out, Sl.of_own HoN.out, Sl.of_own HoF.out, by show k ≤ _; omega, by show j ≤ _; omega⟩, dat_rev (HTD.out.dat.keep hb)⟩
          have HTu := Lib.hid hTu; clear hTu
          have HFF := Lib.hid (show ∀ i : Nat, i < j → treeF ⟨(rotL nodes (r % k)).map (turnN (fun i => (j : Int) - 1 - i)), files.reverse, NU, k, nc', FU, j, fc'⟩ ds.reverse ((j : Int) - 1 - i) = treeF ⟨nodes, files, NA, k, nc, FA, j, fc⟩ ds i from fun i hi => by
            have h2 : ds.length = files.length := Hdl.out
            have h3 := Hf.out
            have h4 : ((j : Int) - 1 - i).toNat = j - 1 - i := by omega
            unfold treeF
            simp only [h4, Int.toNat_natCast]
            rw [List.getElem?_reverse (by omega), List.getElem?_reverse (by omega), h2, h3, show j - 1 - (j - 1 - i) = i by omega])
          have HB0 := Lib.hid (show ∀ x ∈ (rotL nodes (r % k)).map (turnN (fun i => (j : Int) - 1 - i)), badFile j x = false from fun x hx => by
            obtain ⟨y, hy, rfl⟩ := List.mem_map.1 hx
            have h1 := HG.out.kind y ((rotL_perm nodes (r % k)).mem_iff.1 hy)
            simp only at h1
            unfold badFile turnN
            simp only [Bool.or_eq_false_iff, decide_eq_false_iff_not]
            rcases h1 with ⟨e, _⟩ | ⟨e1, e2, _⟩
            · rw [if_pos (by omega)]; omega
            · rw [if_neg (by omega)]; simp only; omega)
          have HSMr := Lib.hid (show ∀ x ∈ files.reverse, x.n ≤ 8192 from fun x hx => HG.out.small x (List.mem_reverse.1 hx))
          have HT6 := Lib.hid (HTD.out.keep hb); have HO6 := Lib.hid (HOD.out.keep hb)
          clear HoN HoF
          have u0 := hU.cell 0; have u1 := hU.cell 1
          go_upto_region 19 with (fail)
          go_upto_region 20 with (go_at_call 41; refine (tcanon_any ⟨(rotL nodes (r % k)).map (turnN (fun i => (j : Int) - 1 - i)), files.reverse, NU, k, nc', FU, j, fc'⟩ ds.reverse _ HTu.out).mono ?_; intro e w6 hc6; obtain ⟨hb6, ⟨vn, vf, vNA, vnn, vnc, vFA, vfn, vfc⟩, E1, es, rfl, hO, hC, hSm⟩ := tcanon_out HTu.out hc6; clear hc6; unfold TV.val)
          obtain ⟨rfl, hX1, hX2⟩ := cout_self (t := ⟨nodes, files, NA, k, nc, FA, j, fc⟩) (u := ⟨(rotL nodes (r % k)).map (turnN (fun i => (j : Int) - 1 - i)), files.reverse, NU, k, nc', FU, j, fc'⟩) (ds' := ds.reverse) (g := fun i => (j : Int) - 1 - i) (ds := ds) HL.out Hn.out Hf.out Hdl.out ((rotL_perm nodes (r % k)).map _) (by show k ≤ 256; omega) (by show j ≤ 256; omega) HSMr.out HB0.out (fun i h => by have h : i < j := h; show (0 : Int) ≤ (j : Int) - 1 - i; omega) (fun i i' _ _ h => by have h : (j : Int) - 1 - i = (j : Int) - 1 - i' := h; omega) HFF.out HTu.out hC
          have HSame := Lib.hid (show sameB ⟨vn, vf, vNA, vnn, vnc, vFA, vfn, vfc⟩ ⟨nodes, files, NA, k, nc, FA, j, fc⟩ es ds = true by unfold sameB; rw [hX1, hX2, HL.out]; rfl)
          have hV := Blk.new w6 26 #[.slice vNA vnn vnc, .slice vFA vfn vfc]
          have hg6 := (Below.refl w6.heap.size w6).alloc (Nat.le_refl _) (.cells #[.slice vNA vnn vnc, .slice vFA vfn vfc] 26)
          have hbe := hb6.trans (hg6.mono hb6.size)
          have HO := Lib.hid (hO.below hg6)
          obtain ⟨W6, hW6⟩ : ∃ W, w6.alloc (.cells #[.slice vNA vnn vnc, .slice vFA vfn vfc] 26) = W := ⟨_, rfl⟩
          obtain ⟨gv, hgv⟩ : ∃ g, w6.heap.size = g := ⟨_, rfl⟩
          rw [hW6] at hV hbe HO ⊢
          rw [hgv] at hV ⊢
          clear hW6 hgv hg6 hb6 hO hC hSm hX1 hX2 u0 u1 b1 HFF HB0 HSMr HTu
          replace hB1 := hB1.below hbe hBl1; replace hB2 := hB2.below hbe hBl2
          have HT7 := Lib.hid (HT6.out.keep hbe); have HO7 := Lib.hid (HO6.out.keep hbe)
          replace hb := hb.trans (hbe.mono hb.size)
          have hVl := hV.lt; have hBl1 := hB1.lt; have hBl2 := hB2.lt
          clear HT6 HO6 hbe hU hUl
          have b0 := hB1.cell 0; have b1 := hB1.cell 1; have v0 := hV.cell 0; have v1 := hV.cell 1
          have tok1 : True := trivial
          go_upto_region 22 with (first | (go_at_call 18; refine (numT _ _).mono ?_; rintro e w7 ⟨rfl, hw⟩; rw [hw]; clear hw) | (go_at_call 22; refine (same_any ⟨vn, vf, vNA, vnn, vnc, vFA, vfn, vfc⟩ ⟨nodes, files, NA, k, nc, FA, j, fc⟩ _ _ _ HO.out.tree HT7.out).mono ?_; rintro e w8 ⟨rfl, hb8⟩; rw [HSame.out]))
          replace hB1 := hB1.below hb8 hBl1; replace hB2 := hB2.below hb8 hBl2
          have HT8 := Lib.hid (HT7.out.keep hb8); have HO8 := Lib.hid (HO7.out.keep hb8)
          replace hb := hb.trans (hb8.mono hb.size)
          clear hb8 hV hVl hBl1 hBl2 b0 b1 v0 v1 HO HT7 HO7 HSame
          have hBl1 := hB1.lt; have hBl2 := hB2.lt
          have b0 := hB1.cell 0; have b1 := hB1.cell 1
          go_upto_region 23 with (go_at_call 32; refine (bytes_yes ⟨nodes, files, NA, k, nc, FA, j, fc⟩ ds _ HT8.out HL.out).mono ?_; rintro e w9 ⟨A7, n7, c7, rfl, hn7, ho7, hq⟩; have HN7 := Lib.hid hn7; have HO9 := Lib.hid (Sl.of_own ho7); clear hn7 ho7)
          replace hB1 := hB1.below hq hBl1; replace hB2 := hB2.below hq hBl2
          have HT9 := Lib.hid (HT8.out.keep hq); have HO9' := Lib.hid (HO8.out.keep hq)
          replace hb := hb.trans (hq.mono hb.size)
          clear hq hBl1 hBl2 b0 b1 HT8 HO8
          have hBl1 := hB1.lt; have hBl2 := hB2.lt
          have b2 := hB2.cell 0; have b3 := hB2.cell 1
          go_upto_region 24 with (go_at_call 32; refine (bytes_any ⟨nodes', files', NB, mn, mc, FB, fm, md⟩ os _ HO9'.out).mono ?_; rintro e wa ⟨A8, n8, c8, ys, rfl, hn8, ho8, hy0, hy1, hq⟩; rw [HF.out] at hy0 hy1 ⊢; have HN8 := Lib.hid hn8; have HO8 := Lib.hid (Sl.of_own ho8); have HY0 := Lib.hid hy0; clear hn8 ho8 hy0 hy1)
          replace hB1 := hB1.below hq hBl1; replace hB2 := hB2.below hq hBl2
          have HTa := Lib.hid (HT9.out.keep hq); have HOa := Lib.hid (HO9'.out.keep hq)
          have HOb := Lib.hid (HO9.out.keep (Nat.le_trans (Nat.le_refl _) hq.size) hq.block)
          replace hb := hb.trans (hq.mono hb.size)
          clear hq hBl1 hBl2 b2 b3 HT9 HO9' HO9
          have hBl1 := hB1.lt; have hBl2 := hB2.lt
          have b0 := hB1.cell 0; have b1 := hB1.cell 1; have b2 := hB2.cell 0; have b3 := hB2.cell 1
          by_cases f0 : F = 0
          · have f2 : (F != 0) = false := by simp [f0]
            have hy := HY0.out f0
            have HLo := Lib.hid (HF.out.trans f0)
            clear f0
            subst hy
            obtain ⟨V, hV⟩ : ∃ V, exactB ⟨nodes, files, NA, k, nc, FA, j, fc⟩ ⟨nodes', files', NB, mn, mc, FB, fm, md⟩ ds os = V := ⟨_, rfl⟩
            have HSame := Lib.hid (show sameB ⟨nodes, files, NA, k, nc, FA, j, fc⟩ ⟨nodes', files', NB, mn, mc, FB, fm, md⟩ ds os = V by unfold sameB; rw [HL.out, HLo.out, hV]; rfl)
            have hstr := tree_str_eq HTa.out HOa.out HG.out (good_of_loose HLo.out)
            rw [hV] at hstr
            obtain ⟨X7, hX7⟩ : ∃ X, treeI ⟨nodes, files, NA, k, nc, FA, j, fc⟩ ds = X := ⟨_, rfl⟩
            obtain ⟨X8, hX8⟩ : ∃ X, treeI ⟨nodes', files', NB, mn, mc, FB, fm, md⟩ os = X := ⟨_, rfl⟩
            have hp7 := tree_pos ⟨nodes, files, NA, k, nc, FA, j, fc⟩ ds
            have hp8 := tree_pos ⟨nodes', files', NB, mn, mc, FB, fm, md⟩ os
            rw [hX7] at HOb HN7 hstr hp7
            rw [hX8] at HO8 HN8 hstr hp8
            rw [HN7.out] at hp7
            rw [HN8.out] at hp8
            clear hX7 hX8 hV HLo
            have hs := Nat.le_refl wa.heap.size
            cases V
            all_goals
              refine wp_region_ordB (none) [(0, true), (1, false), (2, true), (3, true), (4, true), (5, true), (6, true), (7, true), (8, true), (9, true), (10, true), (11, false), (12, true), (13, true), (14, true)] (by kernel_rfl) (by kernel_rfl) fun hG0 => ?_
              repeat (first
                | (refine ord_skipB rfl (by rfl) ?_; simp only [Act.put, List.setIfInBounds_toArray, List.set_cons_zero, List.set_cons_succ])
                | (first | (refine ord_qH rfl (by rfl) (fun w' hh => exec_convI rfl rfl (HOb.out.held hs rfl hh) HN7.out hp7) ?_; simp only [Act.put, List.setIfInBounds_toArray, List.set_cons_zero, List.set_cons_succ]) | (refine ord_qH rfl (by rfl) (fun w' hh => exec_convI rfl rfl (HO8.out.held hs rfl hh) HN8.out hp8) ?_; simp only [Act.put, List.setIfInBounds_toArray, List.set_cons_zero, List.set_cons_succ]))
                | (refine ord_qE rfl (by rfl) ?_; apply Exists.intro; refine ⟨fun w' hc' => ?_, ?_⟩; (focus (go_simp; (try go_bits); (try simp only [↓IntWalk.iteOmega]); with_reducible rfl)); simp only [Act.put, List.setIfInBounds_toArray, List.set_cons_zero, List.set_cons_succ]))
              refine ord_eB rfl fun K hK => ?_
              go_wp2_with (go_at_call 18; refine (numT _ _).mono ?_; rintro e wb ⟨rfl, hw⟩; rw [hw]; clear hw)
              have hG1 := grown_trans hG0 (World.grownBy.refl _ _)
              refine hK.out _ _ hG1 ?_
              clear hK K
              repeat (first
                | (refine ord_skipB rfl (by rfl) ?_; simp only [Act.put, List.setIfInBounds_toArray, List.set_cons_zero, List.set_cons_succ])
                | (first | (refine ord_qH rfl (by rfl) (fun w' hh => exec_convI rfl rfl (HOb.out.held hs rfl hh) HN7.out hp7) ?_; simp only [Act.put, List.setIfInBounds_toArray, List.set_cons_zero, List.set_cons_succ]) | (refine ord_qH rfl (by rfl) (fun w' hh => exec_convI rfl rfl (HO8.out.held hs rfl hh) HN8.out hp8) ?_; simp only [Act.put, List.setIfInBounds_toArray, List.set_cons_zero, List.set_cons_succ]))
                | (refine ord_qE rfl (by rfl) ?_; apply Exists.intro; refine ⟨fun w' hc' => ?_, ?_⟩; (focus (go_simp; (try go_bits); (try simp only [↓IntWalk.iteOmega]); with_reducible rfl)); simp only [Act.put, List.setIfInBounds_toArray, List.set_cons_zero, List.set_cons_succ]))
              refine ord_eB rfl fun K hK => ?_
              go_wp2_with (go_at_call 22; refine (same_any ⟨nodes, files, NA, k, nc, FA, j, fc⟩ ⟨nodes', files', NB, mn, mc, FB, fm, md⟩ _ _ _ (HTa.out.keep (below_grown hG1 (Nat.le_refl _) (fun g e => by cases e))) (HOa.out.keep (below_grown hG1 (Nat.le_refl _) (fun g e => by cases e)))).mono ?_; rintro e wc ⟨rfl, hbc⟩; rw [HSame.out])
              have hG2 := grown_trans hG1 (grown_below hbc (Nat.le_refl _))
              refine hK.out _ _ hG2 ?_
              clear hK K
              repeat (first
                | (refine ord_skipB rfl (by rfl) ?_; simp only [Act.put, List.setIfInBounds_toArray, List.set_cons_zero, List.set_cons_succ])
                | (first | (refine ord_qH rfl (by rfl) (fun w' hh => exec_convI rfl rfl (HOb.out.held hs rfl hh) HN7.out hp7) ?_; simp only [Act.put, List.setIfInBounds_toArray, List.set_cons_zero, List.set_cons_succ]) | (refine ord_qH rfl (by rfl) (fun w' hh => exec_convI rfl rfl (HO8.out.held hs rfl hh) HN8.out hp8) ?_; simp only [Act.put, List.setIfInBounds_toArray, List.set_cons_zero, List.set_cons_succ]))
                | (refine ord_qE rfl (by rfl) ?_; apply Exists.intro; refine ⟨fun w' hc' => ?_, ?_⟩; (focus (go_simp; (try go_bits); (try simp only [↓IntWalk.iteOmega]); with_reducible rfl)); simp only [Act.put, List.setIfInBounds_toArray, List.set_cons_zero, List.set_cons_succ]))
              refine ord_end ?_
              go_wp2
              go_ret
              exact ⟨rfl, hb.trans ((below_grown hG2 (Nat.le_refl _) (fun g e => by cases e)).mono hb.size)⟩
          · have f2 : (F != 0) = true := bne_iff_ne.2 f0
            clear f0
            refine wp_region_ordB (none) [(0, true), (1, false), (2, true), (3, true), (4, true), (5, true), (6, true), (7, true), (8, true), (9, true), (10, true), (11, false), (12, true), (13, true), (14, true)] (by kernel_rfl) (by kernel_rfl) fun hG0 => ?_
            repeat (first
              | (refine ord_skipB rfl (by rfl) ?_; simp only [Act.put, List.setIfInBounds_toArray, List.set_cons_zero, List.set_cons_succ])
              | (first | (refine ord_qH rfl (by rfl) (fun w' hh => exec_convI rfl rfl (HOb.out.held hs rfl hh) HN7.out hp7) ?_; simp only [Act.put, List.setIfInBounds_toArray, List.set_cons_zero, List.set_cons_succ]) | (refine ord_qH rfl (by rfl) (fun w' hh => exec_convI rfl rfl (HO8.out.held hs rfl hh) HN8.out hp8) ?_; simp only [Act.put, List.setIfInBounds_toArray, List.set_cons_zero, List.set_cons_succ]))
              | (refine ord_qE rfl (by rfl) ?_; apply Exists.intro; refine ⟨fun w' hc' => ?_, ?_⟩; (focus (go_simp; (try go_bits); (try simp only [↓IntWalk.iteOmega]); with_reducible rfl)); simp only [Act.put, List.setIfInBounds_toArray, List.set_cons_zero, List.set_cons_succ]))
            refine ord_eB rfl fun K hK => ?_
            go_wp2_with (go_at_call 18; refine (numT _ _).mono ?_; rintro e wb ⟨rfl, hw⟩; rw [hw]; clear hw)
            have hG1 := grown_trans hG0 (World.grownBy.refl _ _)
            refine hK.out _ _ hG1 ?_
            clear hK K
            repeat (first
              | (refine ord_skipB rfl (by rfl) ?_; simp only [Act.put, List.setIfInBounds_toArray, List.set_cons_zero, List.set_cons_succ])
              | (first | (refine ord_qH rfl (by rfl) (fun w' hh => exec_convI rfl rfl (HOb.out.held hs rfl hh) HN7.out hp7) ?_; simp only [Act.put, List.setIfInBounds_toArray, List.set_cons_zero, List.set_cons_succ]) | (refine ord_qH rfl (by rfl) (fun w' hh => exec_convI rfl rfl (HO8.out.held hs rfl hh) HN8.out hp8) ?_; simp only [Act.put, List.setIfInBounds_toArray, List.set_cons_zero, List.set_cons_succ]))
              | (refine ord_qE rfl (by rfl) ?_; apply Exists.intro; refine ⟨fun w' hc' => ?_, ?_⟩; (focus (go_simp; (try go_bits); (try simp only [↓IntWalk.iteOmega]); with_reducible rfl)); simp only [Act.put, List.setIfInBounds_toArray, List.set_cons_zero, List.set_cons_succ]))
            refine ord_eB rfl fun K hK => ?_
            go_wp2_with (fail)
            have hG2 := grown_trans hG1 (World.grownBy.refl _ _)
            refine hK.out _ _ hG2 ?_
            clear hK K
            repeat (first
              | (refine ord_skipB rfl (by rfl) ?_; simp only [Act.put, List.setIfInBounds_toArray, List.set_cons_zero, List.set_cons_succ])
              | (first | (refine ord_qH rfl (by rfl) (fun w' hh => exec_convI rfl rfl (HOb.out.held hs rfl hh) HN7.out hp7) ?_; simp only [Act.put, List.setIfInBounds_toArray, List.set_cons_zero, List.set_cons_succ]) | (refine ord_qH rfl (by rfl) (fun w' hh => exec_convI rfl rfl (HO8.out.held hs rfl hh) HN8.out hp8) ?_; simp only [Act.put, List.setIfInBounds_toArray, List.set_cons_zero, List.set_cons_succ]))
              | (refine ord_qE rfl (by rfl) ?_; apply Exists.intro; refine ⟨fun w' hc' => ?_, ?_⟩; (focus (go_simp; (try go_bits); (try simp only [↓IntWalk.iteOmega]); with_reducible rfl)); simp only [Act.put, List.setIfInBounds_toArray, List.set_cons_zero, List.set_cons_succ]))
            refine ord_end ?_
            go_wp2
            go_ret
            exact ⟨rfl, hb.drew⟩

set_option maxRecDepth 100000 in
theorem lifted (os : Os) (started : os.Started) (H : Type) (enc : TypeId × Value → H) :
    ReturnsInHanded {} Try.checked os 13 .any (Rows.treeShuffledSpec.pre6 enc Try.prog Try.f13 Rows.treeShuffledRow.domain false) (Rows.treeShuffledSpec.post enc Try.prog Try.f13 false true false false) := by
  refine returnsInHanded_of_change (C := Try.checked) own started (by kernel_rfl) Try.func13
    (ChangeSpec.witness6 (enc := enc) (C := Try.checked) false ⟨#[], #[.agg #[.slice none 0 0, .slice none 0 0], .agg #[.slice none 0 0, .slice none 0 0], .int .i64 0], []⟩ 8 (by kernel_rfl) (by kernel_rfl) (by kernel_rfl) (by kernel_rfl)) ?_
  intro W base args ds gs before hval0 hW hcnd _
  have hval : ∀ (j : Nat) t v, Try.f13.params[j]? = some t → args[j]? = some v → Value.okWide Try.prog W .any base t v := hval0
  have hW' := hW
  obtain ⟨p, q, hA0, hV, rfl, hfz, hnd⟩ := hW
  have hA : DataW.TrodAll enc Try.prog W 0 (fun _ => true) true Try.f13.params.toList args.toList ds p := hA0
  rw [Try.params13] at hA hval
  obtain ⟨v0, vs0, d0, ds0, p0, q0, hargs, rfl, rfl, h0, r0⟩ := trodAll_cons hA
  obtain ⟨v1, vs1, d1, ds1, p1, q1, rfl, rfl, rfl, h1, r1⟩ := trodAll_cons r0
  obtain ⟨v2, vs2, d2, ds2, p2, q2, rfl, rfl, rfl, h2, r2⟩ := trodAll_cons r1
  obtain ⟨rfl, rfl, rfl⟩ := trodAll_nil r2
  obtain rfl : args = #[v0, v1, v2] := by cases args; simp_all
  obtain ⟨rfl, rfl⟩ := trodVars_none hV
  have k0 := h0
  have lt0 : ∀ x ∈ p0, x.block < W.heap.size := by obtain ⟨m, hm⟩ := k0; exact DataW.trod_lt m _ _ _ hm
  obtain ⟨t0, ds0', rfl, hT0⟩ := open_tree (hval 0 26 v0 rfl rfl) h0 lt0
  have k1 := h1
  have lt1 : ∀ x ∈ p1, x.block < W.heap.size := by obtain ⟨m, hm⟩ := k1; exact DataW.trod_lt m _ _ _ hm
  obtain ⟨t1, ds1', rfl, hT1⟩ := open_tree (hval 1 26 v1 rfl rfl) h1 lt1
  obtain ⟨a2, rfl, rfl, rfl, w2⟩ := open_int Try.underlying3 (hval 2 3 v2 rfl rfl) h2
  clear hA0 hval0
  refine (walk t0 ds0' t1 ds1' a2 W hT0 hT1 w2).mono fun e W' ⟨he, bel⟩ => ?_
  subst he
  exact ⟨_, rfl, _, _, _, [], _, [], hW', trodAll_mk1 (shut_bool Try.underlying4 _), (trodAll_cons_mk (Below.trod laidOut (by kernel_rfl) (of_decide_eq_true (by kernel_rfl)) k0 bel lt0) (trodAll_cons_mk (Below.trod laidOut (by kernel_rfl) (of_decide_eq_true (by kernel_rfl)) k1 bel lt1) (trodAll_cons_mk (shut_int Try.underlying3 w2) trodAll_mk0))), rfl, bel.frame _, fun h => by cases h⟩

theorem over : Rows.treeShuffledRow.holds Try.pinned (OpenSpec.ofChange Rows.treeShuffledSpec) :=
  OpenClaim.holds_of_wide 13 Try.f13 rfl rfl rfl rfl rfl rfl rfl ⟨rfl, rfl, rfl, rfl, rfl⟩ rfl rfl rfl rfl rfl (by kernel_rfl) Try.func13 (by kernel_rfl)
    (of_decide_eq_true (by kernel_rfl)) (by unfold Func.isWrapper; first | (rw [if_pos (by decide +kernel)]; kernel_rfl) | (rw [if_neg (by decide +kernel)]; exact ⟨rfl, rfl⟩))
    (fun os started H enc _ => lifted os started H enc)

theorem proved : Rows.TreeShuffledSaid := over
#print axioms proved
end Go.Proofs.Ytdjlchbgdehccaa.treeShuffledDone
