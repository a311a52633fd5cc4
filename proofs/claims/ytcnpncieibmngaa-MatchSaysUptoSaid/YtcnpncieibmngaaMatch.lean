/- match.Match, walked: it says what matchE and matchL say. -/
import Derived.Test.YtcnpncieibmngaaLoopC
namespace Go.Proofs.Ytcnpncieibmngaa
open Go.RowKit Go.Shelf

attribute [local go_sem] Oper.semAt_some
@[go_sem] theorem run_store_func (P : Program) (w : World) (a : Addr) (m : Mode) (f : Fn) (ts cs : Array Value) : (store a (.func f ts cs) m).run P w = stored P w a (.func f ts cs) m := run_store P w a _ m rfl
@[go_sem] theorem index3_0 (f g h : Value) (W : World) : (Instr.index 79 (.agg #[f, g, h]) (.int .i64 0)).run Try.prog W = .ok f W := by kernel_rfl
@[go_sem] theorem index3_1 (f g h : Value) (W : World) : (Instr.index 79 (.agg #[f, g, h]) (.int .i64 1)).run Try.prog W = .ok g W := by kernel_rfl
@[go_sem] theorem index3_2 (f g h : Value) (W : World) : (Instr.index 79 (.agg #[f, g, h]) (.int .i64 2)).run Try.prog W = .ok h W := by kernel_rfl
def MatchRes (E : Int) (out : List Src) (w : World) (e : Ending) (w' : World) : Prop :=
  ∃ (A : Option Addr) (n c : Nat), e = .returned (.tuple #[.slice A n c, .int .i64 E]) ∧ out.length = n ∧ Sl w' w'.heap.size 3 A n (out.flatMap Src.list) ∧ Below w.heap.size w w'
section
variable {fn : Func} {p q : Tmp} {t1 t2 : TypeId}
theorem results_cell_cc (h : fn.results = #[.cell p t1, .cell q t2]) (tmps : Array Value) (P : Program) (w : World) :
    (results fn tmps).run P w = ((asAddr (tmps.getD p undef)).run P w).andThen fun a w₁ => ((loadVar t1 a).run P w₁).andThen fun x w₂ => ((asAddr (tmps.getD q undef)).run P w₂).andThen fun b w₃ => ((loadVar t2 b).run P w₃).andThen fun y w₄ => .ok (.tuple #[x, y]) w₄ := by
  simp only [results, h]
  simp [Sem.run_bind, Result.andThen]
end
set_option maxRecDepth 100000 in
set_option maxHeartbeats 16000000 in
theorem match_main (s t : TV) (ds es : List ByteArray) (SA : Option Addr) (sn sc : Nat) (ss : List SC) (sd : List ByteArray) (w : World) (hs : TreeD w s ds) (ht : TreeD w t es) (hS : StockAt w SA sn ss sd) (c1 : checkE s = 0) (c2 : checkE t = 0) (c3 : stockE sd = 0) :
    Calls Try.prog 12 #[s.val, t.val, .slice SA sn sc] w (MatchRes (matchE s t ds es sd) (matchL s t ds es sd) w) := by
  have hck : ∀ W, Below w.heap.size w W → Calls Try.prog 31 #[s.val, t.val] W (IntRes 0 W) := fun W hW => by
    have h := checked_any s t W (hs.tree.keep hW) (ht.tree.keep hW)
    unfold checksE at h
    rw [c1, c2, if_neg (by simp)] at h
    exact h
  have hst : ∀ W, Below w.heap.size w W → Calls Try.prog 32 #[.slice SA sn sc] W (IntRes 0 W) := fun W hW => by
    have h := stock_any SA sn sc ss sd W (hS.keep hW)
    rw [c3] at h
    exact h
  have gs := good_of_loose (check_loose c1)
  have gt := good_of_loose (check_loose c2)
  have hsfn := gs.fn; have htfn := gt.fn; have htnn := gt.nn
  have hel : es.length = t.fn := by rw [ht.dat.len, ht.tree.fl]
  have hdl : ds.length = s.fn := by rw [hs.dat.len, hs.tree.fl]
  obtain ⟨E, hE⟩ : ∃ E, matchE s t ds es sd = E := ⟨_, rfl⟩
  obtain ⟨L, hL⟩ : ∃ L, matchL s t ds es sd = L := ⟨_, rfl⟩
  rw [hE, hL]
  unfold matchE at hE
  unfold matchL at hL
  rw [if_neg (by simp [c1]), if_neg (by simp [c2]), if_neg (by simp [c3])] at hE hL
  have HC3 := Lib.hid c3
  have HE := Lib.hid hE; have HLl := Lib.hid hL; have HCk := Lib.hid hck; have HSt := Lib.hid hst; have HGs := Lib.hid gs; have HGt := Lib.hid gt; have HEl := Lib.hid hel; have HDl := Lib.hid hdl; have HS := Lib.hid hS
  have HTs := Lib.hid hs; have HTt := Lib.hid ht
  clear hE hL hck hst gs gt hel hdl hS hs ht c1 c2 c3
  have hB1 := (((Blk.new w 25 #[.slice s.NA s.nn s.nc, .slice s.FA s.fn s.fc]).alloc (.cells #[.slice t.NA t.nn t.nc, .slice t.FA t.fn t.fc] 25)).alloc (.cells #[.slice none 0 0] 29)).alloc (.cells #[.int .i64 0] 30)
  have hB2 := ((Blk.new (w.alloc (.cells #[.slice s.NA s.nn s.nc, .slice s.FA s.fn s.fc] 25)) 25 #[.slice t.NA t.nn t.nc, .slice t.FA t.fn t.fc]).alloc (.cells #[.slice none 0 0] 29)).alloc (.cells #[.int .i64 0] 30)
  have hB3 := (Blk.new ((w.alloc (.cells #[.slice s.NA s.nn s.nc, .slice s.FA s.fn s.fc] 25)).alloc (.cells #[.slice t.NA t.nn t.nc, .slice t.FA t.fn t.fc] 25)) 29 #[.slice none 0 0]).alloc (.cells #[.int .i64 0] 30)
  have hB4 := Blk.new (((w.alloc (.cells #[.slice s.NA s.nn s.nc, .slice s.FA s.fn s.fc] 25)).alloc (.cells #[.slice t.NA t.nn t.nc, .slice t.FA t.fn t.fc] 25)).alloc (.cells #[.slice none 0 0] 29)) 30 #[.int .i64 0]
  have hb := (((((Below.refl w.heap.size w).alloc (Nat.le_refl _) (.cells #[.slice s.NA s.nn s.nc, .slice s.FA s.fn s.fc] 25)).alloc (by simp) (.cells #[.slice t.NA t.nn t.nc, .slice t.FA t.fn t.fc] 25)).alloc (by simp; omega) (.cells #[.slice none 0 0] 29)).alloc (by simp; omega) (.cells #[.int .i64 0] 30))
  simp only [World.size_alloc] at hB2 hB3 hB4
  have hmm := @run_makeMap Try.prog
  unfold TV.val at HCk ⊢
  refine (callsIn_wide (n := 5)).1 ?_
  refine callsIn_of_wp_marks Try.func12 rfl trivial ?_ rfl
  refine wpIn_wide.2 ?_
  simp only [Try.ntmps12, List.size_toArray, List.length_cons, List.length_nil, Nat.reduceAdd, Nat.reduceSub, Array.replicate_succ, Array.replicate_zero, List.push_toArray, List.append_toArray, List.nil_append, List.cons_append]
  have b0 := hB1.cell 0; have b1 := hB1.cell 1; have t0 := hB2.cell 0; have t1 := hB2.cell 1
  have hbs := hb.size
  go_upto_region 7 with (first | (go_at_call 31; refine (HCk.out _ hb).mono ?_; rintro e w1 ⟨rfl, hb1⟩; replace hB1 := hB1.below hb1 hB1.lt; replace hB2 := hB2.below hb1 hB2.lt; replace hB3 := hB3.below hb1 hB3.lt; replace hB4 := hB4.below hb1 hB4.lt; replace hb := hb.trans (hb1.mono hbs)) | (go_at_call 32; refine (HSt.out _ hb).mono ?_; rintro e w2 ⟨rfl, hb2⟩; replace hB1 := hB1.below hb2 hB1.lt; replace hB2 := hB2.below hb2 hB2.lt; replace hB3 := hB3.below hb2 hB3.lt; replace hB4 := hB4.below hb2 hB4.lt; replace hb := hb.trans (hb2.mono hb.size)))
  clear b0 b1 t0 t1 hbs hb1 hb2
  have t0 := hB2.cell 0; have t1 := hB2.cell 1
  have hbs := hb.size
  go_upto_region 8 with (refine wpList_make_zero rfl _ _ rfl Try.underlying29 (z := .agg #[.int .i64 0, .int .i64 0, .int .i64 0]) (sz := 3) (by_ := 24) (by kernel_rfl) rfl (by omega) Src.list noS rfl (n := t.fn) rfl rfl (by omega) (by unfold maxLen; omega) hbs ?_; intro w3 ho3 hg3)
  obtain ⟨og, hog⟩ : ∃ g, w2.heap.size = g := ⟨_, rfl⟩
  rw [hog] at ho3 ⊢
  have hb3 := hb.trans (below_grown hg3 hb.size (fun g e => by cases e))
  replace hB1 := hB1.grown hg3 (by simp); replace hB2 := hB2.grown hg3 (by simp); replace hB3 := hB3.grown hg3 (by simp); replace hB4 := hB4.grown hg3 (by simp)
  have hO := Blk.new w3 29 #[.slice (some ⟨og, 0, none⟩) t.fn t.fn]
  obtain ⟨W4, hW4⟩ : ∃ W, w3.alloc (.cells #[.slice (some ⟨og, 0, none⟩) t.fn t.fn] 29) = W := ⟨_, rfl⟩
  have hg4 : w3.grownBy W4 none := by rw [← hW4]; exact World.grownBy_alloc _ _ none
  obtain ⟨ox, hox⟩ : ∃ g, w3.heap.size = g := ⟨_, rfl⟩
  rw [hW4, hox] at hO ⊢
  have hb4 := hb3.trans (below_grown hg4 hb3.size (fun g e => by cases e))
  replace hB1 := hB1.grown hg4 (by simp); replace hB2 := hB2.grown hg4 (by simp); replace hB3 := hB3.grown hg4 (by simp); replace hB4 := hB4.grown hg4 (by simp)
  have ho4 := own_keep ho3 fun g o e => hg4.block g (own_lt2 (by rw [← e]; exact ho3)).2.1 (by simp)
  clear hW4 hox hog ho3 hg3 hg4 hb3 hb t0 t1 hbs
  go_upto_region 9 with (fail)
  have hM := MapV.new (T := strK) W4
  have hg5 := World.grownBy_alloc W4 (.map #[] 0) none
  have hF := Blk.new (W4.alloc (.map #[] 0)) 67 #[.map (some W4.heap.size)]
  have hg6 := World.grownBy_alloc (W4.alloc (.map #[] 0)) (.cells #[.map (some W4.heap.size)] 67) none
  replace hM := hM.kept hg6 (by simp)
  obtain ⟨fm, hfm⟩ : ∃ g, W4.heap.size = g := ⟨_, rfl⟩
  obtain ⟨W6, hW6⟩ : ∃ W, (W4.alloc (.map #[] 0)).alloc (.cells #[.map (some W4.heap.size)] 67) = W := ⟨_, rfl⟩
  rw [World.size_alloc] at hF
  rw [hW6, hfm] at hF
  rw [hW6] at hM hg6
  rw [hfm] at hM
  have hg46 : W4.grownBy W6 none := grown_trans hg5 hg6
  have hb6 := hb4.trans (below_grown hg46 hb4.size (fun g e => by cases e))
  have hfmb : w.heap.size ≤ fm := by rw [← hfm]; exact hb4.size
  replace hB1 := hB1.grown hg46 (by simp); replace hB2 := hB2.grown hg46 (by simp); replace hB3 := hB3.grown hg46 (by simp); replace hB4 := hB4.grown hg46 (by simp); replace hO := hO.grown hg46 (by simp)
  have ho6 := own_keep ho4 fun g o e => hg46.block g (own_lt2 (by rw [← e]; exact ho4)).2.1 (by simp)
  rw [hfm]
  rw [hfm] at hW6
  rw [hW6]
  obtain ⟨C, hC⟩ : ∃ C : MC, C = ⟨w.heap.size, s, t, ds, es, sd, w.heap.size, w.heap.size + 1, ox, fm + 1, og, fm⟩ := ⟨_, rfl⟩
  have hMM : MM1 C W6 (List.replicate es.length noS) (buildF (ds := ds) []) := by
    subst hC
    refine ⟨hb6.size, hB1, hB2, by rw [HEl.out]; exact hO, by rw [HEl.out]; exact ho6, by simp, hF, ⟨[], hM, by simp, ⟨fun b _ => rfl, fun b hb' => absurd rfl hb', fun b b' A A' n n' c c' g _ h => by cases h⟩⟩, hfmb⟩
  have hMB : MB C w (w.heap.size + 1 + 1) (w.heap.size + 1 + 1 + 1) [] W6 := by
    subst hC
    exact ⟨hb6, hB3, hB4, fun D h => by cases h⟩
  have HMM := Lib.hid hMM; have HMB := Lib.hid hMB; have HC := Lib.hid hC
  have t0 := hB1.cell 0; have t1 := hB1.cell 1
  have hbs6 := hb6.size
  have hfml := hM.lt
  have hcont := contents_in 4 s W6
  unfold TV.val at hcont
  have HCo := Lib.hid (callsIn_wide.1 hcont)
  clear hMM hMB hC hcont hM hg5 hg6 hg46 hF hB2 hB3 hB4 hO ho6 ho4 hb4 hfm hW6 hmm
  go_wp2_with (go_at_call 33; refine HCo.out.mono ?_; rintro e w7 ⟨rfl, rfl⟩)
  have hg7 := World.grownBy_alloc W6 (.cells s.cells 25) none
  have hT7 := Blk.new W6 25 s.cells
  obtain ⟨W7, hW7⟩ : ∃ W, W6.alloc (.cells s.cells 25) = W := ⟨_, rfl⟩
  obtain ⟨b7, hb7⟩ : ∃ b, W6.heap.size = b := ⟨_, rfl⟩
  rw [hW7] at hg7 hT7 ⊢
  rw [hb7] at hT7 ⊢
  have hCb : C.base = w.heap.size := by rw [HC.out]
  have hCds : C.ds = ds := by rw [HC.out]
  have hCfm : C.fm = fm := by rw [HC.out]
  have hCfx : C.fx = fm + 1 := by rw [HC.out]
  have hMM7 := HMM.out.still hg7
  have hMB7 := HMB.out.still hg7 (by rw [hCb]; exact hbs6)
  have hFA7 : FreeAt W7 C.base C.fm 0 (buildF (ds := ds) []) := by
    obtain ⟨es', h1, h2, h3⟩ := hMM7.fM
    refine ⟨es', h1, ?_, h3⟩
    have : es' = [] := by
      cases es' with
      | nil => rfl
      | cons x r =>
        have := getV_mem h1.1 (a := x.1) (v := x.2) (by simp)
        rw [h3.no x.1 rfl] at this
        cases this
    rw [this]; exact Nat.le_refl _
  have hfm7 : C.fm < W7.heap.size := by rw [hCfm]; have := hg7.size; omega
  have hbs7 : w.heap.size ≤ W7.heap.size := Nat.le_trans hbs6 hg7.size
  have HMM7 := Lib.hid hMM7; have HMB7 := Lib.hid hMB7; have HFA7 := Lib.hid hFA7; have HCb := Lib.hid hCb; have HCfm := Lib.hid hCfm; have HCfx := Lib.hid hCfx
  have HT7 := Lib.hid hT7
  clear hMM7 hMB7 hFA7 hW7 hb7 hg7 hbs6 hfml hB1 t0 t1 hCb hCds hCfm hCfx hT7
  refine contents_loop s ds b7 w.heap.size rfl HTs.out.tree.fl HTs.out.tree.fm HTs.out.dat.len (HTs.out.tree.fs.below HMB7.out.below (by rw [HCb.out]; exact Nat.le_refl _)) (fun k x d hx hd => ⟨(HTs.out.dat.at_ k x d hx hd).1, (HTs.out.dat.at_ k x d hx hd).2.below HMB7.out.below (by rw [HCb.out]; exact Nat.le_refl _)⟩) hbs7 HT7.out
    (fun pre W => (MM1 C W (List.replicate es.length noS) (buildF pre) ∧ FreeAt W C.base C.fm pre.length (buildF pre)) ∧ MB C w (w.heap.size + 1 + 1) (w.heap.size + 1 + 1 + 1) [] W) (fun _ _ _ => False)
    (OwnFrom.and (OwnFrom.and (MM1.ownFrom _ _ hfm7) (FreeAt.ownFrom _ _ hfm7)) (MB.ownFrom (by rw [HCb.out]; exact hbs7) (by rw [HCb.out]; exact Nat.le_refl _) (fun D h => by cases h))) (fun _ => fun _ _ _ _ h _ _ => h) ⟨⟨HMM7.out, HFA7.out⟩, HMB7.out⟩ ?ab ?done ?stop
  case ab =>
    apply Exists.intro
    refine ⟨?_, ?_⟩
    · intro l x W K hK
      simp only [encE]
      gi_wp2
      exact hK
    · rintro l pre x W ⟨⟨hm, hfr⟩, hmb⟩ hlen
      rw [ents_len, HDl.out] at hlen
      obtain ⟨es', hM, hesl, hE⟩ := hfr
      obtain ⟨A, c, hlk, hown⟩ := hE.look x.1.2
      have hflen := buildF_len pre x.1.2
      have hxs : x.1.2.size ≤ 9223372036854775807 := by
        obtain ⟨k, hk⟩ : ∃ k, x.1.1 = k := ⟨_, rfl⟩
        have hx2 := x.2
        have hkl : x.1.1 < s.files.length := by rw [← HTs.out.dat.len]; exact (List.getElem?_eq_some_iff.1 hx2).1
        obtain ⟨f, hf⟩ : ∃ f, s.files[x.1.1]? = some f := ⟨_, List.getElem?_eq_getElem hkl⟩
        have h1 := (HTs.out.dat.at_ _ f _ hf hx2).1
        have h2 := HGs.out.small f (List.mem_of_getElem? hf)
        omega
      have hok : strK.ok x.1.2 := by show _ ≤ maxLen; unfold maxLen; omega
      have hfB := hm.fB
      rw [HCfx.out, HCfm.out] at hfB
      rw [HCfm.out] at hM
      have f0 := hfB.cell 0
      have hfl := hfB.lt
      have hml := hM.lt
      obtain ⟨⟨xi, xb⟩, hxe⟩ := x
      simp only at hlk hown hflen hxs hok
      have hneF : ¬ some (fm + 1) = blkOf A := hfB.ne_row hown (by decide)
      have hneM : ¬ some fm = blkOf A := fun e => by
        obtain ⟨ms, ck, hmm⟩ := hM.isMap
        rcases hown.2 with ⟨h', _⟩ | ⟨g', cap, cur, hv, _, hh, _⟩
        · injection h' with h'; rw [h'] at e; cases e
        · injection hv with hv
          rw [hv] at e
          injection e with e
          rw [e, hh] at hmm
          cases hmm
      have Hml : Hid (∀ w', w'.heap[fm]? = W.heap[fm]? → MapV strK w' fm es') := Lib.hid fun w' hh => hM.keep hh
      have hwb : C.base ≤ W.heap.size := hm.size
      obtain ⟨Fb, hFb⟩ : ∃ Fb, buildF pre xb = Fb := ⟨_, rfl⟩
      have hlk0 := hlk
      have hown0 := hown
      rw [hFb] at hlk hown hflen
      obtain ⟨nF, hnF⟩ : ∃ n, Fb.length = n := ⟨_, rfl⟩
      rw [hnF] at hlk hown hflen
      have hel : es'.length < maxLen := by unfold maxLen; omega
      have HLK := Lib.hid hlk; have HOwn := Lib.hid hown; have HM := Lib.hid hM; have HE' := Lib.hid hE; have Hm := Lib.hid hm; have Hmb := Lib.hid hmb; have HLK0 := Lib.hid hlk0; have HOwn0 := Lib.hid hown0; have HFb := Lib.hid hFb; have HnF := Lib.hid hnF
      clear hlk hown hM hE hm hmb hfB hlk0 hown0 hFb hnF
      gi_wp2
      refine wpIn_round_ordG (blkOf A) [(0, true), (1, true), (2, true), (3, true), (4, true), (5, true), (6, false), (7, false)] 8 (by kernel_rfl) (by kernel_rfl) fun hG0 => ?_
      repeat (first
        | (refine ord_skipB rfl (by rfl) ?_; simp only [Act.put, List.setIfInBounds_toArray, List.set_cons_zero, List.set_cons_succ])
        | (refine ord_qH rfl (by rfl) (fun w' hh => exec_mv_look Try.mtNums rfl rfl rfl (Hml.out w' (hh _ hml hneM)) hok HLK.out) ?_; simp only [Act.put, List.setIfInBounds_toArray, List.set_cons_zero, List.set_cons_succ])
        | (refine ord_qE rfl (by rfl) ?_; apply Exists.intro; refine ⟨fun w' hc' => ?_, ?_⟩; (focus (go_simp; (try go_bits); (try simp only [↓IntWalk.iteOmega]); with_reducible rfl)); simp only [Act.put, List.setIfInBounds_toArray, List.set_cons_zero, List.set_cons_succ]))
      refine ord_eB rfl fun K hK => ?_
      go_wp2_with (fail)
      have hG1 := grown_trans hG0 (World.grownBy_alloc W.drew (.cells #[.int .i64 xi] 3) (blkOf A))
      refine hK.out _ _ hG1 ?_
      clear hK K
      repeat (first
        | (refine ord_skipB rfl (by rfl) ?_; simp only [Act.put, List.setIfInBounds_toArray, List.set_cons_zero, List.set_cons_succ])
        | (refine ord_qH rfl (by rfl) (fun w' hh => exec_mv_look Try.mtNums rfl rfl rfl (Hml.out w' (hh _ hml hneM)) hok HLK.out) ?_; simp only [Act.put, List.setIfInBounds_toArray, List.set_cons_zero, List.set_cons_succ])
        | (refine ord_qE rfl (by rfl) ?_; apply Exists.intro; refine ⟨fun w' hc' => ?_, ?_⟩; (focus (go_simp; (try go_bits); (try simp only [↓IntWalk.iteOmega]); with_reducible rfl)); simp only [Act.put, List.setIfInBounds_toArray, List.set_cons_zero, List.set_cons_succ]))
      refine ord_eB rfl fun K hK => ?_
      go_wp2_with (at_builtin; refine wpList_append_one (w := W.drew) rfl _ _ _ rfl Try.numT rfl (own_drew HOwn.out) #[.int .i64 xi] rfl (by simp) rfl (by simp [Value.oneCell']) (by unfold maxLen; omega) (by omega) hwb ?_; intro g6 c6 w6 ho6 hg6 hat6)
      have hG2 := grown_trans hG0 hg6
      refine hK.out _ _ hG2 ?_
      clear hK K
      repeat (first
        | (refine ord_skipB rfl (by rfl) ?_; simp only [Act.put, List.setIfInBounds_toArray, List.set_cons_zero, List.set_cons_succ])
        | (refine ord_qH rfl (by rfl) (fun w' hh => exec_mv_look Try.mtNums rfl rfl rfl (Hml.out w' (hh _ hml hneM)) hok HLK.out) ?_; simp only [Act.put, List.setIfInBounds_toArray, List.set_cons_zero, List.set_cons_succ])
        | (refine ord_qE rfl (by rfl) ?_; apply Exists.intro; refine ⟨fun w' hc' => ?_, ?_⟩; (focus (go_simp; (try go_bits); (try simp only [↓IntWalk.iteOmega]); with_reducible rfl)); simp only [Act.put, List.setIfInBounds_toArray, List.set_cons_zero, List.set_cons_succ]))
      have HM6 := Lib.hid (HM.out.kept hG2 hneM)
      refine ord_tail rfl fun K hK => ?_
      go_wp2_with (refine wpList_mv_put rfl Try.mtNums _ _ _ (.inl rfl) rfl HM6.out (T := strK) (q := xb) rfl hok rfl hel ?_; intro w8 hm8 hg8 hs8)
      refine hK.out _ _ ⟨rfl, ?_⟩
      clear hK K
      subst nF
      subst Fb
      obtain ⟨r1, r2, r3⟩ := build_step (C := C) (N := pre.length) Hm.out (by rw [HCfm.out]; exact HM.out) HE'.out HLK0.out HOwn0.out hG2 ho6 (hat6.imp (fun h => h) (fun h => Nat.le_of_lt h)) (by rw [HCfm.out]; exact hm8) (by rw [HCfm.out]; exact hg8) hesl (by omega)
      refine ⟨r3.keepsFrom hfm7, by rw [← HCb.out]; exact r3.below, ⟨⟨by rw [buildF_snoc]; exact r1, by rw [buildF_snoc, List.length_append]; exact r2⟩, Hmb.out.fr r3 (by rw [HCfm.out]; exact HM.out.isMap)⟩⟩
  case stop => exact fun D c pre W _ _ h _ => h.elim
  case done =>
    rintro D1 W hD1 ⟨⟨hm, _⟩, hmb⟩ hk1
    rw [buildF_all] at hm
    have hmb1 : MB C w (w.heap.size + 1 + 1) (w.heap.size + 1 + 1 + 1) [D1] W := ⟨hmb.below, hmb.rB, hmb.eB, fun D hD => by
      simp only [List.mem_singleton] at hD
      subst hD
      exact ⟨by rw [HCb.out]; exact Nat.le_trans hbs7 hD1, hk1⟩⟩
    have hCsx : C.sx = w.heap.size := by rw [HC.out]
    have hCtx : C.tx = w.heap.size + 1 := by rw [HC.out]
    have hCs : C.s = s := by rw [HC.out]
    have hCt : C.t = t := by rw [HC.out]
    have hCds : C.ds = ds := by rw [HC.out]
    have hCes : C.es = es := by rw [HC.out]
    have hCsd : C.sd = sd := by rw [HC.out]
    have hCox : C.ox = ox := by rw [HC.out]
    have hCog : C.og = og := by rw [HC.out]
    have HCsx := Lib.hid hCsx; have HCtx := Lib.hid hCtx; have HCs := Lib.hid hCs; have HCt := Lib.hid hCt; have HCds := Lib.hid hCds; have HCes := Lib.hid hCes; have HCsd := Lib.hid hCsd; have HCox := Lib.hid hCox; have HCog := Lib.hid hCog
    have hD1b : w.heap.size ≤ D1 := Nat.le_trans hbs7 hD1
    have hD1l : D1 < W.heap.size := (Array.getElem?_eq_some_iff.1 hk1).1
    clear HMM7 HMB7 HFA7 HT7 hfm7 hbs7 hmb hk1 hD1 HMM HMB HCo hCsx hCtx hCs hCt hCds hCes hCsd hCox hCog
    have Hm := Lib.hid hm; have Hmb := Lib.hid hmb1
    clear hm hmb1
    go_upto_region 14 with (fail)
    have hg8 := World.grownBy_alloc W (.cells #[.func (.func 34) #[] #[.pointer (some ⟨fm + 1, 0, none⟩), .pointer (some ⟨ox, 0, none⟩)]] 72) none
    have hK8 := Blk.new W 72 #[.func (.func 34) #[] #[.pointer (some ⟨fm + 1, 0, none⟩), .pointer (some ⟨ox, 0, none⟩)]]
    obtain ⟨W8, hW8⟩ : ∃ W8, W.alloc (.cells #[.func (.func 34) #[] #[.pointer (some ⟨fm + 1, 0, none⟩), .pointer (some ⟨ox, 0, none⟩)]] 72) = W8 := ⟨_, rfl⟩
    obtain ⟨kx, hkx⟩ : ∃ b, W.heap.size = b := ⟨_, rfl⟩
    rw [hW8] at hg8 hK8 ⊢
    rw [hkx] at hK8 ⊢
    have hgA : W.grownBy W8 none := hg8
    have hW8b : C.base ≤ W8.heap.size := by rw [HCb.out]; exact Nat.le_trans (Nat.le_trans hD1b (Nat.le_of_lt hD1l)) hg8.size
    have hbW : Below w.heap.size w W := by have := Hmb.out.below; rw [HCb.out] at this; exact this
    have hb8 := hbW.trans (below_grown hg8 hbW.size (fun g e => by cases e))
    have hn1 := fun W (h : TreeAt W t) => names_any t W h HGt.out
    have hn2 := fun W (h : TreeAt W s) => names_any s W h HGs.out
    unfold TV.val at hn1 hn2
    have HN1 := Lib.hid hn1; have HN2 := Lib.hid hn2
    have htB := Hm.out.tB; have hsB := Hm.out.sB
    rw [HCtx.out, HCt.out] at htB
    rw [HCsx.out, HCs.out] at hsB
    unfold TV.cells at htB hsB
    have htB8 := htB.grown hg8 (by simp)
    have t0 := htB8.cell 0; have t1 := htB8.cell 1
    clear hn1 hn2 hW8 hg8
    go_upto_region 15 with (go_at_call 35; refine (HN1.out _ (HTt.out.tree.keep hb8)).mono ?_; rintro e w9 ⟨qg, m1, rs, rfl, hof, _, _, hb9⟩)
    have hg9 := grown_below (row := none) hb9 (Nat.le_refl _)
    have hgq := World.grownBy_alloc w9 (.cells #[.slice (some ⟨qg, 0, none⟩) t.fn t.fn] 73) none
    have hQ := Blk.new w9 73 #[.slice (some ⟨qg, 0, none⟩) t.fn t.fn]
    obtain ⟨W9, hW9⟩ : ∃ W9, w9.alloc (.cells #[.slice (some ⟨qg, 0, none⟩) t.fn t.fn] 73) = W9 := ⟨_, rfl⟩
    obtain ⟨qx, hqx⟩ : ∃ b, w9.heap.size = b := ⟨_, rfl⟩
    rw [hW9] at hgq hQ ⊢
    rw [hqx] at hQ ⊢
    have hg89 := grown_trans hg9 hgq
    replace hgA := grown_trans hgA hg89
    have hb9' := hbW.trans (below_grown hgA hbW.size (fun g e => by cases e))
    have hW9dm : W.heap.size ≤ W9.heap.size := hgA.size
    replace hK8 := hK8.grown hg89 (by simp)
    have hof9 := hof.fr (FrM.of_none hgq hb9.size []) (by simp)
    have hsB9 := hsB.grown hgA (by simp)
    have s0 := hsB9.cell 0; have s1 := hsB9.cell 1
    clear hof hg9 hgq hW9 hqx hb9 t0 t1 htB8 hg89
    have hW8s := hb8.size
    go_upto_region 16 with (go_at_call 35; refine (HN2.out _ (HTs.out.tree.keep hb9')).mono ?_; rintro e w10 ⟨qg2, dm, rs2, rfl, _, hix, hdmb, hb10⟩)
    have hg10 := grown_below (row := none) hb10 (Nat.le_refl _)
    have hgd := World.grownBy_alloc w10 (.cells #[.map (some dm)] 74) none
    have hD' := Blk.new w10 74 #[.map (some dm)]
    obtain ⟨W10, hW10⟩ : ∃ W9, w10.alloc (.cells #[.map (some dm)] 74) = W9 := ⟨_, rfl⟩
    obtain ⟨dx, hdx⟩ : ∃ b, w10.heap.size = b := ⟨_, rfl⟩
    rw [hW10] at hgd hD' ⊢
    rw [hdx] at hD' ⊢
    have hg910 := grown_trans hg10 hgd
    replace hgA := grown_trans hgA hg910
    replace hK8 := hK8.grown hg910 (by simp); replace hQ := hQ.grown hg910 (by simp)
    have hof10 := hof9.fr (FrM.of_none hg910 hb9'.size []) (by simp)
    have hix10 := hix.fr (FrM.of_none hgd (Nat.zero_le _) []) (by simp)
    clear hof9 hg10 hgd hW10 hdx hb10 s0 s1 hsB9 hg910 hix
    have hmm := @run_makeMap Try.prog
    go_upto_region 18 with (fail)
    have hbW10 : w.heap.size ≤ W10.heap.size := Nat.le_trans hbW.size hgA.size
    have hq1 := World.grownBy_alloc W10 (.map #[] 0) none
    have hGm := MapV.new (T := strK) W10
    have hq2 := World.grownBy_alloc (W10.alloc (.map #[] 0)) (.cells #[.map (some W10.heap.size)] 74) none
    have hGx := Blk.new (W10.alloc (.map #[] 0)) 74 #[.map (some W10.heap.size)]
    have hq3 := World.grownBy_alloc ((W10.alloc (.map #[] 0)).alloc (.cells #[.map (some W10.heap.size)] 74)) (.map #[] 0) none
    have hAm := MapV.new (T := strK) ((W10.alloc (.map #[] 0)).alloc (.cells #[.map (some W10.heap.size)] 74))
    have hq4 := World.grownBy_alloc (((W10.alloc (.map #[] 0)).alloc (.cells #[.map (some W10.heap.size)] 74)).alloc (.map #[] 0)) (.cells #[.map (some (W10.heap.size + 1 + 1))] 74) none
    have hAx := Blk.new (((W10.alloc (.map #[] 0)).alloc (.cells #[.map (some W10.heap.size)] 74)).alloc (.map #[] 0)) 74 #[.map (some (W10.heap.size + 1 + 1))]
    simp only [World.size_alloc] at hGx hAm hAx
    obtain ⟨W12, hW12⟩ : ∃ V, ((((W10.alloc (.map #[] 0)).alloc (.cells #[.map (some W10.heap.size)] 74)).alloc (.map #[] 0)).alloc (.cells #[.map (some (W10.heap.size + 1 + 1))] 74)) = V := ⟨_, rfl⟩
    obtain ⟨gm, hgm⟩ : ∃ b, W10.heap.size = b := ⟨_, rfl⟩
    have hWgm : W.heap.size ≤ gm := by rw [← hgm]; exact hgA.size
    have hdgm : dm < gm := by rw [← hgm]; exact hix10.lt
    have hWdm : W.heap.size ≤ dm := Nat.le_trans hW9dm hdmb
    replace hGm := hGm.kept (grown_trans hq2 (grown_trans hq3 hq4)) (by simp)
    replace hGx := hGx.grown (grown_trans hq3 hq4) (by simp)
    replace hAm := hAm.kept hq4 (by simp)
    have hgBC : W10.grownBy W12 none := by rw [← hW12]; exact grown_trans hq1 (grown_trans hq2 (grown_trans hq3 hq4))
    rw [hW12] at hGm hGx hAm hAx ⊢
    rw [hgm] at hGm hGx hAm hAx ⊢
    replace hgA := grown_trans hgA hgBC
    replace hK8 := hK8.grown hgBC (by simp); replace hQ := hQ.grown hgBC (by simp); replace hD' := hD'.grown hgBC (by simp)
    have hof12 := hof10.fr (FrM.of_none hgBC hbW10 []) (by simp)
    have hix12 := hix10.fr (FrM.of_none hgBC hbW10 []) (by simp)
    have hdml := hix10.lt
    clear hq1 hq2 hq3 hq4 hof10 hix10 hgBC hmm hW12 hb8 hb9' hW8s
    have hm12 := Hm.out.still hgA
    have hmb12 := Hmb.out.still hgA (by rw [HCb.out]; exact hbW.size)
    have hb12 : Below w.heap.size w W12 := by have := hmb12.below; rw [HCb.out] at this; exact this
    have hsl := HS.out.sl; have hsln := HS.out.len; have hsdl := HS.out.dlen
    have HSl := Lib.hid hsl; have HSln := Lib.hid hsln; have HSdl := Lib.hid hsdl; have HSd := Lib.hid HS.out.dat; have HSnm := HS.out.nm
    have hsn : sn ≤ 65535 := by
      have := (stockE_iff sd).1 HC3.out
      omega
    have Hb12 := Lib.hid hb12; have HAm := Lib.hid (show IdxAt W12 (gm + 1 + 1) 0 (stockG sd sn) from ⟨[], hAm, Nat.le_refl _, fun p => by rw [stockG_end sd (by rw [hsdl]; exact Nat.le_refl _)]; rfl⟩)
    have HAmap := Lib.hid hAm.isMap
    clear hsl hsln hsdl hAm
    have ha0 := hAx.cell 0
    have haxl := hAx.lt
    have haml : gm + 1 + 1 < W12.heap.size := HAm.out.lt
    go_wp2
    go_loopw [21] (fun v wr => ∃ k : Nat, k ≤ sn ∧ v = .int .i64 ((k : Int) - 1) ∧ W12.grownBy wr (some (gm + 1 + 1)) ∧ IdxAt wr (gm + 1 + 1) (sn - k) (stockG sd k)) (fun v _ => (intOf v + 1).toNat)
    case atStart => exact ⟨sn, Nat.le_refl _, rfl, ⟨rfl, rfl, rfl, Nat.le_refl _, fun _ _ _ => rfl⟩, by rw [Nat.sub_self]; exact HAm.out⟩
    case round =>
      clear HAm
      obtain ⟨k, hk, rfl, hgr, hix⟩ := hrel
      have hAxr := hAx.grown hgr (by simp)
      cases k with
      | succ k =>
        have hki : (0 : Int) ≤ ((k + 1 : Nat) : Int) - 1 := by omega
        have hkv : ((k + 1 : Nat) : Int) - 1 = (k : Int) := by omega
        have hlt : k < sn := by omega
        have hki2 : (k : Int) < sn := by omega
        rw [hkv]
        have hbr : Below w.heap.size w wr := Hb12.out.trans (below_grown hgr Hb12.out.size (fun g e => by injection e with e; omega))
        obtain ⟨xb, xo, x, hxA, hxb, hx, hc⟩ := (HSl.out.below hbr (Nat.le_refl _)).get SC.len HSln.out hlt
        subst hxA
        have c0 := hc 0 _ rfl
        simp only [Nat.add_zero, Nat.mul_one] at c0
        obtain ⟨d, hd⟩ : ∃ d, sd[k]? = some d := ⟨_, List.getElem?_eq_getElem (by rw [HSdl.out]; exact hlt)⟩
        obtain ⟨hdn, hdS⟩ := HSd.out k x d hx hd
        have hdb : d.size ≤ 8192 := ((stockE_iff sd).1 HC3.out).2.1 d (List.mem_of_getElem? hd)
        have hdS2 := hdS.below hbr (Nat.le_refl _)
        have hok : strK.ok d := by show _ ≤ maxLen; unfold maxLen; omega
        obtain ⟨aes, hA1, hA2, hA3⟩ := hix
        have hel : aes.length < maxLen := by unfold maxLen; omega
        have ha1 := hAxr.cell 0
        have haxr := hAxr.lt
        have hxw : xb < wr.heap.size := by have := hbr.size; omega
        have hs := hbr.size
        have SA' := Lib.hid hdS2; have NA' := Lib.hid hdn; have HA1 := Lib.hid hA1; have HA3 := Lib.hid hA3; have Hd := Lib.hid hd; have Hgr := Lib.hid hgr
        clear hc hx hd hdn hdS hdS2 hA1 hA3 hAxr
        go_upto_region 21 with (fail)
        refine wp_region_ordG (none) [(0, true), (1, true), (2, true), (3, true), (4, true), (5, true), (6, true)] 7 (by kernel_rfl) (by kernel_rfl) fun hG0 => ?_
        repeat (first
          | (refine ord_skipB rfl (by rfl) ?_; simp only [Act.put, List.setIfInBounds_toArray, List.set_cons_zero, List.set_cons_succ])
          | (refine ord_qH rfl (by rfl) (fun w' hh => exec_conv rfl rfl (SA'.out.held hs rfl hh) NA'.out) ?_; simp only [Act.put, List.setIfInBounds_toArray, List.set_cons_zero, List.set_cons_succ])
          | (refine ord_qE rfl (by rfl) ?_; apply Exists.intro; refine ⟨fun w' hc' => ?_, ?_⟩; (focus (go_simp; (try go_bits); (try simp only [↓IntWalk.iteOmega]); with_reducible rfl)); simp only [Act.put, List.setIfInBounds_toArray, List.set_cons_zero, List.set_cons_succ]))
        refine ord_tail rfl fun K hK => ?_
        go_wp2_with (refine wpList_mv_put rfl Try.mtNum _ _ _ (.inl rfl) rfl (HA1.out.kept (grown_drew wr none) (by simp)) (T := strK) (q := d) rfl hok rfl hel ?_; intro w13 hm13 hg13 hs13)
        refine hK.out _ _ ?_
        clear hK K
        have hgn := grown_trans Hgr.out (grown_trans (grown_any (grown_drew wr none)) hg13)
        have hix' : IdxAt w13 (gm + 1 + 1) (sn - k) (stockG sd k) := ⟨_, hm13, Nat.le_trans (getV_len _ _) (by omega), fun p => by
          rw [putV_get HA1.out.1, stockG_pred sd Hd.out]
          by_cases e : p = d
          · rw [if_pos e, if_pos e]; rfl
          · rw [if_neg e, if_neg e]; exact HA3.out p⟩
        have HGn := Lib.hid hgn; have HIx := Lib.hid hix'
        clear hgn hix' hm13 hg13 hs13 c0 ha1
        go_wp2
        go_roundw
        case rel => exact ⟨k, by omega, by go_num, HGn.out, HIx.out⟩
        case measure => simp [intOf] <;> omega
      | zero =>
        have hki : ¬ (0 : Int) ≤ ((0 : Nat) : Int) - 1 := by omega
        rw [stockG_0, Nat.sub_zero] at hix
        have hix0 : IdxAt wr (gm + 1 + 1) 70000 (stockAt sd) := by
          obtain ⟨aes, h1, h2, h3⟩ := hix
          exact ⟨aes, h1, by omega, h3⟩
        have hfml : fm < W.heap.size := by
          obtain ⟨ms, ck, hmm⟩ := Hm.out.isMap
          rw [HCfm.out] at hmm
          exact (Array.getElem?_eq_some_iff.1 hmm).1
        have hgmb : w.heap.size ≤ gm + 1 + 1 := by omega
        have hnfm : gm + 1 + 1 ≠ fm := by omega
        obtain ⟨hm13, f13⟩ := hm12.mapped hgr HAmap.out (by rw [HCb.out]; exact hgmb) (by rw [HCfm.out]; exact hnfm)
        have hmb13 := hmb12.fr f13 HAmap.out
        obtain ⟨D, hD⟩ : ∃ D : MD, D = ⟨kx, qx, dx, gm + 1, gm + 1 + 1 + 1, qg, rs, dm, gm, gm + 1 + 1⟩ := ⟨_, rfl⟩
        have key : ∀ {g : Nat} {t : TypeId} {cs : Array Value}, Blk W12 g t cs → g ∉ [gm + 1 + 1] := fun {g t cs} hb hm => by
          obtain ⟨ms, ck, hmm⟩ := HAmap.out
          rw [List.mem_singleton.1 hm] at hb
          unfold Blk at hb
          rw [hb] at hmm
          cases hmm
        have hof13 := (hof12.low hW8b).fr f13 (by simp only [List.mem_singleton]; rintro g rfl; exact HAmap.out)
        have hdx13 := f13.blk hD' (by decide) (key hD')
        have hMM2 : MM2 C D wr := by
          subst hD
          refine ⟨?_, ?_, ?_, hdx13, ?_, f13.blk hGx (by decide) (key hGx), hAxr, ?_, ?_, ?_, ?_, ?_, ?_, ?_⟩
          · have := f13.blk hK8 (by decide) (key hK8)
            rw [HCfx.out, HCox.out]; exact this
          · have := f13.blk hQ (by decide) (key hQ)
            rw [HCt.out]; exact this
          · rw [HCt.out]; exact hof13
          · rw [HCs.out]
            exact hix12.fr f13 (by simp only [List.mem_singleton]; omega)
          · rw [HCsd.out]; exact hix0
          · show dm ≠ C.fm; rw [HCfm.out]; omega
          · show gm + 1 + 1 ≠ C.fm; rw [HCfm.out]; omega
          · show gm ≠ C.fm; rw [HCfm.out]; omega
          · show dm ≠ gm; omega
          · show gm + 1 + 1 ≠ gm; omega
          · show C.base ≤ gm; rw [HCb.out]; omega
        have hG3 : IdxAt wr gm 0 (fun _ => none) := IdxAt.fr (show IdxAt W12 gm 0 (fun _ => none) from ⟨[], hGm, Nat.le_refl _, fun p => rfl⟩) f13 (by simp only [List.mem_singleton]; omega)
        have HM1 := Lib.hid hm13; have HMB := Lib.hid hmb13; have HM2 := Lib.hid hMM2; have HG3 := Lib.hid hG3; have HDd := Lib.hid hD
        have hwrl : gm + 1 + 1 + 1 < wr.heap.size := hAxr.lt
        clear hm13 hmb13 hMM2 hG3 hD hof13 hdx13 key f13 hix hix0 hgr hAxr ha0 haxl haml Hb12 hGm hGx hAx hK8 hQ hD' hof12 hix12 hm12 hmb12 hb12 Hm Hmb HAmap HN1 HN2 hgA hbW htB hsB
        go_upto_region 24 with (fail)
        -- the rounds
        have hesz : ∀ (i : Nat) (b : ByteArray), es[i]? = some b → b.size ≤ maxLen := fun i b hb => by
          have hkl : i < t.files.length := by rw [← HTt.out.dat.len]; exact (List.getElem?_eq_some_iff.1 hb).1
          obtain ⟨f, hf⟩ : ∃ f, t.files[i]? = some f := ⟨_, List.getElem?_eq_getElem hkl⟩
          have h1 := (HTt.out.dat.at_ _ f _ hf hb).1
          have h2 := HGt.out.small f (List.mem_of_getElem? hf)
          unfold maxLen; omega
        have hds256 : ds.length ≤ 256 := by rw [HDl.out]; exact hsfn
        have hc1 : ∀ (W : World) (st : MS) (i : Nat) (b : ByteArray), MM1 C W st.1 (freeL ds st.2) → MM2 C D W → es[i]? = some b →
            Calls Try.prog 36 #[.int .i64 i, .string b, .pointer (some ⟨qx, 0, none⟩), .pointer (some ⟨dx, 0, none⟩), .pointer (some ⟨kx, 0, none⟩)] W (RoundRes C W (step1 s.nodes t.nodes ds es st i)) := fun W st i b h h2 hb => by
          have hC := HC.out; have hD := HDd.out
          subst hC hD
          exact round1_any _ _ W st h h2 i b hb (hesz i b hb) hds256 HEl.out.symm (by rw [HTt.out.tree.nl]; exact htnn)
        have hc2 : ∀ (W : World) (st : MS) (i : Nat) (b : ByteArray), MM1 C W st.1 (freeL ds st.2) → MM2 C D W → es[i]? = some b →
            Calls Try.prog 37 #[.int .i64 i, .string b, .pointer (some ⟨ox, 0, none⟩), .pointer (some ⟨fm + 1, 0, none⟩), .pointer (some ⟨kx, 0, none⟩)] W (RoundRes C W (step2 ds es st i)) := fun W st i b h h2 hb => by
          have hC := HC.out; have hD := HDd.out
          subst hC hD
          exact round2_any _ _ W st h h2 i b hb (hesz i b hb) hds256
        have HC1 := Lib.hid hc1; have HC2 := Lib.hid hc2; have HEsz := Lib.hid hesz
        clear hc1 hc2 hesz
        obtain ⟨V0, hV0⟩ : ∃ V, (wr.alloc (.cells #[.func (.func 36) #[] #[.pointer (some ⟨qx, 0, none⟩), .pointer (some ⟨dx, 0, none⟩), .pointer (some ⟨kx, 0, none⟩)], .func (.func 37) #[] #[.pointer (some ⟨ox, 0, none⟩), .pointer (some ⟨fm + 1, 0, none⟩), .pointer (some ⟨kx, 0, none⟩)], .func (.func 38) #[] #[.pointer (some ⟨ox, 0, none⟩), .pointer (some ⟨gm + 1, 0, none⟩), .pointer (some ⟨gm + 1 + 1 + 1, 0, none⟩)]] 79)) = V := ⟨_, rfl⟩
        have hgV0 : wr.grownBy V0 none := by rw [← hV0]; exact World.grownBy_alloc _ _ none
        rw [hV0]
        clear hV0
        obtain ⟨vr, hvr⟩ : ∃ v, wr.heap.size = v := ⟨_, rfl⟩
        rw [hvr]
        have hfD : ∀ {V V' : World}, V.grownBy V' none → MM2 C D V → MM2 C D V' := fun {V V'} hg h => by
          have hc : CellsStay V V' := ⟨hg.size, fun g cs t p hh => (hg.block g (Array.getElem?_eq_some_iff.1 hh).1 (by simp)).trans hh⟩
          exact h.turn hc (hg.block _ h.dM.lt (by simp)) (hg.block _ h.aM.lt (by simp))
        have H1a := Lib.hid (HM1.out.still hgV0); have H2a := Lib.hid (hfD hgV0 HM2.out); have H3a := Lib.hid (HMB.out.still hgV0 HM1.out.size); have HGa := Lib.hid (HG3.out.fr (FrM.of_none (B := 0) hgV0 (Nat.zero_le _) []) (by simp))
        have HfD := Lib.hid (show ∀ (V V' : World), V.grownBy V' none → MM2 C D V → MM2 C D V' from fun V V' hg h => hfD hg h)
        have hcn : ∀ W, Calls Try.prog 33 #[.agg #[.slice t.NA t.nn t.nc, .slice t.FA t.fn t.fc]] W fun e w' => e = .returned (.func (.func 48) #[] #[.pointer (some ⟨W.heap.size, 0, none⟩)]) ∧ w' = W.alloc (.cells t.cells 25) := fun W => callsIn_wide.1 (contents_in 4 t W)
        have HCn := Lib.hid hcn
        have hgmV : gm + 1 + 1 + 1 < V0.heap.size := Nat.lt_of_lt_of_le hwrl hgV0.size
        clear HM1 HM2 HMB HG3 hfD hgV0 hcn hwrl
        have htB0 : Blk V0 (w.heap.size + 1) 25 #[.slice t.NA t.nn t.nc, .slice t.FA t.fn t.fc] := by
          have := H1a.out.tB
          rw [HCtx.out, HCt.out] at this
          exact this
        have t0 := htB0.cell 0; have t1 := htB0.cell 1
        have htl := htB0.lt
        refine wp_loop_rounds 4 ?_
        rw [rounds_succ]
        go_wp2_with (go_at_call 33; refine (HCn.out _).mono ?_; rintro e w7 ⟨rfl, rfl⟩)
        have hfmgm : fm < gm := Nat.lt_of_lt_of_le hfml hWgm
        have hDdm : D.dm = dm := by rw [HDd.out]
        have hDam : D.am = gm + 1 + 1 := by rw [HDd.out]
        have hDgm : D.gm = gm := by rw [HDd.out]
        have HDdm := Lib.hid hDdm; have HDam := Lib.hid hDam; have HDgm := Lib.hid hDgm
        have hD1V : D1 < V0.heap.size := (Array.getElem?_eq_some_iff.1 (H3a.out.marks D1 (by simp)).2).1
        clear hDdm hDam hDgm t0 t1 htB0
        have hgr1 := World.grownBy_alloc V0 (.cells #[.func (.func 36) #[] #[.pointer (some ⟨qx, 0, none⟩), .pointer (some ⟨dx, 0, none⟩), .pointer (some ⟨kx, 0, none⟩)]] 78) none
        have hX1 := Blk.new V0 78 #[.func (.func 36) #[] #[.pointer (some ⟨qx, 0, none⟩), .pointer (some ⟨dx, 0, none⟩), .pointer (some ⟨kx, 0, none⟩)]]
        have hgr2 := World.grownBy_alloc (V0.alloc (.cells #[.func (.func 36) #[] #[.pointer (some ⟨qx, 0, none⟩), .pointer (some ⟨dx, 0, none⟩), .pointer (some ⟨kx, 0, none⟩)]] 78)) (.cells t.cells 25) none
        have hTb := Blk.new (V0.alloc (.cells #[.func (.func 36) #[] #[.pointer (some ⟨qx, 0, none⟩), .pointer (some ⟨dx, 0, none⟩), .pointer (some ⟨kx, 0, none⟩)]] 78)) 25 t.cells
        obtain ⟨R0, hR⟩ : ∃ V, (V0.alloc (.cells #[.func (.func 36) #[] #[.pointer (some ⟨qx, 0, none⟩), .pointer (some ⟨dx, 0, none⟩), .pointer (some ⟨kx, 0, none⟩)]] 78)).alloc (.cells t.cells 25) = V := ⟨_, rfl⟩
        replace hX1 := hX1.grown hgr2 (by simp)
        rw [hR] at hgr2 hX1 hTb ⊢
        have hgr := grown_trans hgr1 hgr2
        obtain ⟨xb, hxb⟩ : ∃ b, V0.heap.size = b := ⟨_, rfl⟩
        rw [World.size_alloc] at hTb
        rw [hxb] at hX1 hTb ⊢
        have hgs := hgr.size
        have hfmR : C.fm < R0.heap.size := by rw [HCfm.out]; omega
        have hbsR : w.heap.size ≤ R0.heap.size := by omega
        have HX1 := Lib.hid hX1; have HTb := Lib.hid hTb
        have HR1 := Lib.hid (H1a.out.still hgr); have HR2 := Lib.hid (HfD.out _ _ hgr H2a.out); have HR3 := Lib.hid (H3a.out.still hgr H1a.out.size); have HRG := Lib.hid (HGa.out.fr (FrM.of_none (B := 0) hgr (Nat.zero_le _) []) (by simp))
        clear hX1 hTb hgr1 hgr2 hgr hR hxb
        refine contents_loop t es (xb + 1) w.heap.size rfl HTt.out.tree.fl HTt.out.tree.fm HTt.out.dat.len (HTt.out.tree.fs.below HR3.out.below (by rw [HCb.out]; exact Nat.le_refl _)) (fun k x d hx hd => ⟨(HTt.out.dat.at_ k x d hx hd).1, (HTt.out.dat.at_ k x d hx hd).2.below HR3.out.below (by rw [HCb.out]; exact Nat.le_refl _)⟩) hbsR HTb.out
          (fun pre W => (((MM1 C W (foldS (step1 s.nodes t.nodes ds es) (List.replicate es.length noS, fun _ => false) pre).1 (freeL ds (foldS (step1 s.nodes t.nodes ds es) (List.replicate es.length noS, fun _ => false) pre).2) ∧ MM2 C D W) ∧ IdxAt W gm 0 (fun _ => none)) ∧ MB C w (w.heap.size + 1 + 1) (w.heap.size + 1 + 1 + 1) ([D1]) W) ∧ Blk W xb 78 #[.func (.func 36) #[] #[.pointer (some ⟨qx, 0, none⟩), .pointer (some ⟨dx, 0, none⟩), .pointer (some ⟨kx, 0, none⟩)]]) (fun _ _ _ => False)
          (OwnFrom.and (OwnFrom.and (OwnFrom.and (OwnFrom.and (MM1.ownFrom (fun pre => (foldS (step1 s.nodes t.nodes ds es) (List.replicate es.length noS, fun _ => false) pre).1) (fun pre => freeL ds (foldS (step1 s.nodes t.nodes ds es) (List.replicate es.length noS, fun _ => false) pre).2) hfmR) (MM2.ownFrom (by rw [HDdm.out]; omega) (by rw [HDam.out]; omega))) (IdxAt.ownFrom (fun _ => 0) (fun _ _ => none) (by omega))) (MB.ownFrom (by rw [HCb.out]; exact hbsR) (by rw [HCb.out]; exact Nat.le_refl _) (fun D' hD' => by simp only [List.mem_cons, List.not_mem_nil, or_false] at hD'; omega))) (fun _ W W' row hs hg hr => (turn_stay hg hr).1.blk hs))
          (fun _ => fun _ _ _ _ h _ _ => h) ⟨⟨⟨⟨HR1.out, HR2.out⟩, HRG.out⟩, HR3.out⟩, HX1.out⟩ ?ab ?done ?stop
        case ab =>
          apply Exists.intro
          refine ⟨?_, ?_⟩
          · intro l x W K hK
            simp only [encE]
            gi_wp2
            exact hK
          · rintro l pre ⟨⟨xi, xd⟩, hxe⟩ W ⟨⟨⟨⟨hm, h2⟩, hg3⟩, hmb⟩, hbx⟩ hlen
            have hc := HC1.out W (foldS (step1 s.nodes t.nodes ds es) (List.replicate es.length noS, fun _ => false) pre) xi xd hm h2 hxe
            have x0 := hbx.cell 0
            have HCc := Lib.hid hc; have Hm := Lib.hid hm; have H2 := Lib.hid h2; have Hg3 := Lib.hid hg3; have Hmb := Lib.hid hmb; have Hbx := Lib.hid hbx
            clear hc hm h2 hg3 hmb hbx hlen
            gi_wp2_with (refine ⟨trivial, ?_⟩; gi_at_call 36; refine (CallsIn.inRound l (callsIn_wide.2 HCc.out)).mono ?_; rintro e wq ⟨rfl, hmq, hfq⟩)
            exact ⟨hfq.keepsFrom hfmR, by rw [← HCb.out]; exact hfq.below, ⟨⟨⟨⟨by rw [foldS_snoc]; rw [HCds.out] at hmq; exact hmq, H2.out.fr hfq Hm.out.isMap H2.out.n1 H2.out.n2⟩, Hg3.out.fr hfq (by simp only [List.mem_singleton]; rw [HCfm.out]; omega)⟩, Hmb.out.fr hfq Hm.out.isMap⟩, hfq.blk Hbx.out (by decide) (by
              simp only [List.mem_singleton]
              rintro rfl
              obtain ⟨ms, ck, hmm⟩ := Hm.out.isMap
              rw [show W.heap[C.fm]? = _ from Hbx.out] at hmm
              cases hmm)⟩⟩
        case stop => exact fun D c pre W _ _ h _ => h.elim
        case done =>
          rintro D2 V1 hD2 ⟨⟨⟨⟨hm, h2⟩, hg3⟩, hmb⟩, _⟩ hk2
          rw [fold1] at hm
          have hmb2 : MB C w (w.heap.size + 1 + 1) (w.heap.size + 1 + 1 + 1) [D2, D1] V1 := ⟨hmb.below, hmb.rB, hmb.eB, fun D' hD' => by
            rcases List.mem_cons.1 hD' with rfl | h
            · exact ⟨by rw [HCb.out]; omega, hk2⟩
            · exact hmb.marks D' h⟩
          have H1b := Lib.hid hm; have H2b := Lib.hid h2; have H3b := Lib.hid hmb2; have HGb := Lib.hid hg3
          have hD12 : D1 < D2 := by omega
          have hD2V : D2 < V1.heap.size := (Array.getElem?_eq_some_iff.1 hk2).1
          have hgmW : gm + 1 + 1 + 1 < V1.heap.size := by omega
          clear H1a H2a H3a HGa HR1 HR2 HR3 HRG HX1 HTb hfmR hbsR hgs hgmV hD1V hD2 hk2 hm h2 hg3 hmb hmb2
          have htB0 : Blk V1 (w.heap.size + 1) 25 #[.slice t.NA t.nn t.nc, .slice t.FA t.fn t.fc] := by
            have := H1b.out.tB
            rw [HCtx.out, HCt.out] at this
            exact this
          have t0 := htB0.cell 0; have t1 := htB0.cell 1
          have htl := htB0.lt
          go_wp2
          rw [rounds_succ]
          go_wp2_with (go_at_call 33; refine (HCn.out _).mono ?_; rintro e w7 ⟨rfl, rfl⟩)
          clear t0 t1 htB0
          have hgr1 := World.grownBy_alloc V1 (.cells #[.func (.func 37) #[] #[.pointer (some ⟨ox, 0, none⟩), .pointer (some ⟨fm + 1, 0, none⟩), .pointer (some ⟨kx, 0, none⟩)]] 78) none
          have hX1 := Blk.new V1 78 #[.func (.func 37) #[] #[.pointer (some ⟨ox, 0, none⟩), .pointer (some ⟨fm + 1, 0, none⟩), .pointer (some ⟨kx, 0, none⟩)]]
          have hgr2 := World.grownBy_alloc (V1.alloc (.cells #[.func (.func 37) #[] #[.pointer (some ⟨ox, 0, none⟩), .pointer (some ⟨fm + 1, 0, none⟩), .pointer (some ⟨kx, 0, none⟩)]] 78)) (.cells t.cells 25) none
          have hTb := Blk.new (V1.alloc (.cells #[.func (.func 37) #[] #[.pointer (some ⟨ox, 0, none⟩), .pointer (some ⟨fm + 1, 0, none⟩), .pointer (some ⟨kx, 0, none⟩)]] 78)) 25 t.cells
          obtain ⟨R1, hR⟩ : ∃ V, (V1.alloc (.cells #[.func (.func 37) #[] #[.pointer (some ⟨ox, 0, none⟩), .pointer (some ⟨fm + 1, 0, none⟩), .pointer (some ⟨kx, 0, none⟩)]] 78)).alloc (.cells t.cells 25) = V := ⟨_, rfl⟩
          replace hX1 := hX1.grown hgr2 (by simp)
          rw [hR] at hgr2 hX1 hTb ⊢
          have hgr := grown_trans hgr1 hgr2
          obtain ⟨xb, hxb⟩ : ∃ b, V1.heap.size = b := ⟨_, rfl⟩
          rw [World.size_alloc] at hTb
          rw [hxb] at hX1 hTb ⊢
          have hgs := hgr.size
          have hfmR : C.fm < R1.heap.size := by rw [HCfm.out]; omega
          have hbsR : w.heap.size ≤ R1.heap.size := by omega
          have HX1 := Lib.hid hX1; have HTb := Lib.hid hTb
          have HR1 := Lib.hid (H1b.out.still hgr); have HR2 := Lib.hid (HfD.out _ _ hgr H2b.out); have HR3 := Lib.hid (H3b.out.still hgr H1b.out.size); have HRG := Lib.hid (HGb.out.fr (FrM.of_none (B := 0) hgr (Nat.zero_le _) []) (by simp))
          clear hX1 hTb hgr1 hgr2 hgr hR hxb
          refine contents_loop t es (xb + 1) w.heap.size rfl HTt.out.tree.fl HTt.out.tree.fm HTt.out.dat.len (HTt.out.tree.fs.below HR3.out.below (by rw [HCb.out]; exact Nat.le_refl _)) (fun k x d hx hd => ⟨(HTt.out.dat.at_ k x d hx hd).1, (HTt.out.dat.at_ k x d hx hd).2.below HR3.out.below (by rw [HCb.out]; exact Nat.le_refl _)⟩) hbsR HTb.out
            (fun pre W => (((MM1 C W (foldS (step2 ds es) (upto1 s.nodes t.nodes ds es es.length) pre).1 (freeL ds (foldS (step2 ds es) (upto1 s.nodes t.nodes ds es es.length) pre).2) ∧ MM2 C D W) ∧ IdxAt W gm 0 (fun _ => none)) ∧ MB C w (w.heap.size + 1 + 1) (w.heap.size + 1 + 1 + 1) ([D2, D1]) W) ∧ Blk W xb 78 #[.func (.func 37) #[] #[.pointer (some ⟨ox, 0, none⟩), .pointer (some ⟨fm + 1, 0, none⟩), .pointer (some ⟨kx, 0, none⟩)]]) (fun _ _ _ => False)
            (OwnFrom.and (OwnFrom.and (OwnFrom.and (OwnFrom.and (MM1.ownFrom (fun pre => (foldS (step2 ds es) (upto1 s.nodes t.nodes ds es es.length) pre).1) (fun pre => freeL ds (foldS (step2 ds es) (upto1 s.nodes t.nodes ds es es.length) pre).2) hfmR) (MM2.ownFrom (by rw [HDdm.out]; omega) (by rw [HDam.out]; omega))) (IdxAt.ownFrom (fun _ => 0) (fun _ _ => none) (by omega))) (MB.ownFrom (by rw [HCb.out]; exact hbsR) (by rw [HCb.out]; exact Nat.le_refl _) (fun D' hD' => by simp only [List.mem_cons, List.not_mem_nil, or_false] at hD'; omega))) (fun _ W W' row hs hg hr => (turn_stay hg hr).1.blk hs))
            (fun _ => fun _ _ _ _ h _ _ => h) ⟨⟨⟨⟨HR1.out, HR2.out⟩, HRG.out⟩, HR3.out⟩, HX1.out⟩ ?ab ?done ?stop
          case ab =>
            apply Exists.intro
            refine ⟨?_, ?_⟩
            · intro l x W K hK
              simp only [encE]
              gi_wp2
              exact hK
            · rintro l pre ⟨⟨xi, xd⟩, hxe⟩ W ⟨⟨⟨⟨hm, h2⟩, hg3⟩, hmb⟩, hbx⟩ hlen
              have hc := HC2.out W (foldS (step2 ds es) (upto1 s.nodes t.nodes ds es es.length) pre) xi xd hm h2 hxe
              have x0 := hbx.cell 0
              have HCc := Lib.hid hc; have Hm := Lib.hid hm; have H2 := Lib.hid h2; have Hg3 := Lib.hid hg3; have Hmb := Lib.hid hmb; have Hbx := Lib.hid hbx
              clear hc hm h2 hg3 hmb hbx hlen
              gi_wp2_with (refine ⟨trivial, ?_⟩; gi_at_call 37; refine (CallsIn.inRound l (callsIn_wide.2 HCc.out)).mono ?_; rintro e wq ⟨rfl, hmq, hfq⟩)
              exact ⟨hfq.keepsFrom hfmR, by rw [← HCb.out]; exact hfq.below, ⟨⟨⟨⟨by rw [foldS_snoc]; rw [HCds.out] at hmq; exact hmq, H2.out.fr hfq Hm.out.isMap H2.out.n1 H2.out.n2⟩, Hg3.out.fr hfq (by simp only [List.mem_singleton]; rw [HCfm.out]; omega)⟩, Hmb.out.fr hfq Hm.out.isMap⟩, hfq.blk Hbx.out (by decide) (by
                simp only [List.mem_singleton]
                rintro rfl
                obtain ⟨ms, ck, hmm⟩ := Hm.out.isMap
                rw [show W.heap[C.fm]? = _ from Hbx.out] at hmm
                cases hmm)⟩⟩
          case stop => exact fun D c pre W _ _ h _ => h.elim
          case done =>
            rintro D3 V2 hD3 ⟨⟨⟨⟨hm, h2⟩, hg3⟩, hmb⟩, _⟩ hk2
            rw [fold2] at hm
            have hmb2 : MB C w (w.heap.size + 1 + 1) (w.heap.size + 1 + 1 + 1) [D3, D2, D1] V2 := ⟨hmb.below, hmb.rB, hmb.eB, fun D' hD' => by
              rcases List.mem_cons.1 hD' with rfl | h
              · exact ⟨by rw [HCb.out]; omega, hk2⟩
              · exact hmb.marks D' h⟩
            have H1c := Lib.hid hm; have H2c := Lib.hid h2; have H3c := Lib.hid hmb2; have HGc := Lib.hid hg3
            have hD23 : D2 < D3 := by omega
            have hD3V : D3 < V2.heap.size := (Array.getElem?_eq_some_iff.1 hk2).1
            have hgmW : gm + 1 + 1 + 1 < V2.heap.size := by omega
            clear H1b H2b H3b HGb HR1 HR2 HR3 HRG HX1 HTb hfmR hbsR hgs hD2V hD3 hk2 hm h2 hg3 hmb hmb2
            have htB0 : Blk V2 (w.heap.size + 1) 25 #[.slice t.NA t.nn t.nc, .slice t.FA t.fn t.fc] := by
              have := H1c.out.tB
              rw [HCtx.out, HCt.out] at this
              exact this
            have t0 := htB0.cell 0; have t1 := htB0.cell 1
            have htl := htB0.lt
            go_wp2
            rw [rounds_succ]
            go_wp2_with (go_at_call 33; refine (HCn.out _).mono ?_; rintro e w7 ⟨rfl, rfl⟩)
            clear t0 t1 htB0
            -- the first files that are kept
            have hgr1 := World.grownBy_alloc V2 (.cells #[.func (.func 38) #[] #[.pointer (some ⟨ox, 0, none⟩), .pointer (some ⟨gm + 1, 0, none⟩), .pointer (some ⟨gm + 1 + 1 + 1, 0, none⟩)]] 78) none
            have hX1 := Blk.new V2 78 #[.func (.func 38) #[] #[.pointer (some ⟨ox, 0, none⟩), .pointer (some ⟨gm + 1, 0, none⟩), .pointer (some ⟨gm + 1 + 1 + 1, 0, none⟩)]]
            have hgr2 := World.grownBy_alloc (V2.alloc (.cells #[.func (.func 38) #[] #[.pointer (some ⟨ox, 0, none⟩), .pointer (some ⟨gm + 1, 0, none⟩), .pointer (some ⟨gm + 1 + 1 + 1, 0, none⟩)]] 78)) (.cells t.cells 25) none
            have hTb := Blk.new (V2.alloc (.cells #[.func (.func 38) #[] #[.pointer (some ⟨ox, 0, none⟩), .pointer (some ⟨gm + 1, 0, none⟩), .pointer (some ⟨gm + 1 + 1 + 1, 0, none⟩)]] 78)) 25 t.cells
            obtain ⟨R2, hR⟩ : ∃ V, (V2.alloc (.cells #[.func (.func 38) #[] #[.pointer (some ⟨ox, 0, none⟩), .pointer (some ⟨gm + 1, 0, none⟩), .pointer (some ⟨gm + 1 + 1 + 1, 0, none⟩)]] 78)).alloc (.cells t.cells 25) = V := ⟨_, rfl⟩
            replace hX1 := hX1.grown hgr2 (by simp)
            rw [hR] at hgr2 hX1 hTb ⊢
            have hgr := grown_trans hgr1 hgr2
            obtain ⟨xb, hxb⟩ : ∃ b, V2.heap.size = b := ⟨_, rfl⟩
            rw [World.size_alloc] at hTb
            rw [hxb] at hX1 hTb ⊢
            have hgs := hgr.size
            have hfmR : C.fm < R2.heap.size := by rw [HCfm.out]; omega
            have hgmR : gm < R2.heap.size := by omega
            have hbsR : w.heap.size ≤ R2.heap.size := by omega
            have HX1 := Lib.hid hX1; have HTb := Lib.hid hTb
            obtain ⟨st2, hst2⟩ : ∃ st, upto2 s.nodes t.nodes ds es es.length = st := ⟨_, rfl⟩
            have HSt2 := Lib.hid hst2
            rw [hst2] at H1c
            have HR1 := Lib.hid (H1c.out.still hgr); have HR2 := Lib.hid (HfD.out _ _ hgr H2c.out); have HR3 := Lib.hid (H3c.out.still hgr H1c.out.size); have HRG := Lib.hid (HGc.out.fr (FrM.of_none (B := 0) hgr (Nat.zero_le _) []) (by simp))
            clear hX1 hTb hgr1 hgr2 hgr hR hxb hst2
            refine contents_loop t es (xb + 1) w.heap.size rfl HTt.out.tree.fl HTt.out.tree.fm HTt.out.dat.len (HTt.out.tree.fs.below HR3.out.below (by rw [HCb.out]; exact Nat.le_refl _)) (fun k x d hx hd => ⟨(HTt.out.dat.at_ k x d hx hd).1, (HTt.out.dat.at_ k x d hx hd).2.below HR3.out.below (by rw [HCb.out]; exact Nat.le_refl _)⟩) hbsR HTb.out
              (fun pre W => (((MM1 C W st2.1 (freeL ds st2.2) ∧ MM2 C D W) ∧ IdxAt W gm pre.length (firstF st2.1 pre)) ∧ MB C w (w.heap.size + 1 + 1) (w.heap.size + 1 + 1 + 1) ([D3, D2, D1]) W) ∧ Blk W xb 78 #[.func (.func 38) #[] #[.pointer (some ⟨ox, 0, none⟩), .pointer (some ⟨gm + 1, 0, none⟩), .pointer (some ⟨gm + 1 + 1 + 1, 0, none⟩)]]) (fun _ _ _ => False)
              (OwnFrom.and (OwnFrom.and (OwnFrom.and (OwnFrom.and (MM1.ownFrom (fun _ => st2.1) (fun _ => freeL ds st2.2) hfmR) (MM2.ownFrom (by rw [HDdm.out]; omega) (by rw [HDam.out]; omega))) (IdxAt.ownFrom (fun pre => pre.length) (fun pre => firstF st2.1 pre) hgmR)) (MB.ownFrom (by rw [HCb.out]; exact hbsR) (by rw [HCb.out]; exact Nat.le_refl _) (fun D' hD' => by simp only [List.mem_cons, List.not_mem_nil, or_false] at hD'; omega))) (fun _ W W' row hs hg hr => (turn_stay hg hr).1.blk hs))
              (fun _ => fun _ _ _ _ h _ _ => h) ⟨⟨⟨⟨HR1.out, HR2.out⟩, HRG.out⟩, HR3.out⟩, HX1.out⟩ ?ab ?done ?stop
            case ab =>
              apply Exists.intro
              refine ⟨?_, ?_⟩
              · intro l x W K hK
                simp only [encE]
                gi_wp2
                exact hK
              · rintro l pre ⟨⟨xi, xd⟩, hxe⟩ W ⟨⟨⟨⟨hm, h2⟩, hg3⟩, hmb⟩, hbx⟩ hlen
                rw [ents_len, HEl.out] at hlen
                have hxl : xi < es.length := (List.getElem?_eq_some_iff.1 hxe).1
                have hxl2 : xi < st2.1.length := by rw [hm.ol, HCes.out]; exact hxl
                obtain ⟨x, hx⟩ : ∃ x, st2.1[xi]? = some x := ⟨_, List.getElem?_eq_getElem hxl2⟩
                have k0 := src_cell hm hx
                rw [HCog.out] at k0
                have hkk : kindAt st2.1 xi = x.kind := by rw [kindAt, hx]; rfl
                have hok : strK.ok xd := HEsz.out xi xd hxe
                have hoB := hm.oB
                rw [HCox.out, HCog.out, HCes.out] at hoB
                have o0 := hoB.cell 0
                have hgB := h2.gB
                rw [HDgm.out] at hgB
                have hDgx : D.gx = gm + 1 := by rw [HDd.out]
                rw [hDgx] at hgB
                have g0 := hgB.cell 0
                obtain ⟨fes, hf1, hf2, hf3⟩ := hg3
                have hlk := hf1.look_ok Try.mtNum hok
                have hxi : (xi : Int) < es.length := by omega
                have hsn := firstF_snoc st2.1 pre ⟨(xi, xd), hxe⟩
                have Hm := Lib.hid hm; have H2 := Lib.hid h2; have Hmb := Lib.hid hmb; have Hbx := Lib.hid hbx; have Hf1 := Lib.hid hf1; have Hf3 := Lib.hid hf3; have Hkk := Lib.hid hkk
                cases hfx : firstF st2.1 pre xd with
                | some v =>
                  have hgv := hf3 xd
                  rw [hfx] at hgv
                  rw [hgv] at hlk
                  have hrun : (Instr.lookup 74 (.map (some gm)) (.string xd) true).run Try.prog W = .ok (.tuple #[.int .i64 v, .bool true]) W := hlk
                  have Hsn : Hid (firstF st2.1 (pre ++ [⟨(xi, xd), hxe⟩]) = firstF st2.1 pre) := Lib.hid (by rw [hsn, if_neg (fun h => by rw [hfx] at h; cases h.2)])
                  clear hlk hgv hm h2 hmb hbx hf1 hf3 hkk hsn hfx hx hoB hgB
                  by_cases hk1 : x.kind = 1
                  · have hkb : (x.kind == 1) = true := beq_iff_eq.2 hk1
                    clear hk1
                    gi_wp2
                    exact ⟨KeepsFrom.refl _ _, Below.refl _ _, ⟨⟨⟨⟨Hm.out, H2.out⟩, by rw [Hsn.out, List.length_append]; exact ⟨fes, Hf1.out, by omega, Hf3.out⟩⟩, Hmb.out⟩, Hbx.out⟩⟩
                  · have hkb : (x.kind == 1) = false := beq_eq_false_iff_ne.2 hk1
                    clear hk1
                    gi_wp2
                    exact ⟨KeepsFrom.refl _ _, Below.refl _ _, ⟨⟨⟨⟨Hm.out, H2.out⟩, by rw [Hsn.out, List.length_append]; exact ⟨fes, Hf1.out, by omega, Hf3.out⟩⟩, Hmb.out⟩, Hbx.out⟩⟩
                | none =>
                  have hgv := hf3 xd
                  rw [hfx] at hgv
                  rw [hgv] at hlk
                  have hrun : (Instr.lookup 74 (.map (some gm)) (.string xd) true).run Try.prog W = .ok (.tuple #[.int .i64 0, .bool false]) W := hlk
                  by_cases hk1 : x.kind = 1
                  · have hkb : (x.kind == 1) = true := beq_iff_eq.2 hk1
                    have hel : fes.length < maxLen := by unfold maxLen; omega
                    obtain ⟨w', hput, hm', hg', hs'⟩ := hf1.put Try.mtNum hok (.int .i64 xi) hel
                    have hputr : (Instr.mapUpdate 74 (.map (some gm)) (.string xd) (.int .i64 xi)).run Try.prog W = .ok () w' := hput
                    have Hsn : Hid (firstF st2.1 (pre ++ [⟨(xi, xd), hxe⟩]) = fun c => if c = xd then some xi else firstF st2.1 pre c) := Lib.hid (by rw [hsn, if_pos ⟨by rw [hkk]; exact hk1, hfx⟩])
                    have hmp := hm.mapped hg' hf1.isMap (by rw [HCb.out]; omega) (by rw [HCfm.out]; omega)
                    have Hmp := Lib.hid hmp; have Hmm := Lib.hid hm'
                    have h2' := h2.fr hmp.2 hf1.isMap (by rw [HDdm.out]; omega) (by rw [HDam.out]; omega)
                    have hmb' := hmb.fr hmp.2 hf1.isMap
                    have hbx' := hmp.2.blk hbx (by decide) (by simp only [List.mem_singleton]; exact Blk.ne_map hbx hf1)
                    have H2' := Lib.hid h2'; have Hmb' := Lib.hid hmb'; have Hbx' := Lib.hid hbx'
                    clear hlk hgv hm h2 hmb hbx hf1 hf3 hkk hsn hfx hx hoB hgB hk1 hput hm' hg' hs' hmp h2' hmb' hbx'
                    gi_wp2
                    refine ⟨Hmp.out.2.keepsFrom hgmR, by rw [← HCb.out]; exact Hmp.out.2.below, ⟨⟨⟨⟨Hmp.out.1, H2'.out⟩, ?_⟩, Hmb'.out⟩, Hbx'.out⟩⟩
                    rw [Hsn.out, List.length_append]
                    refine ⟨_, Hmm.out, Nat.le_trans (getV_len _ _) (by simp; omega), fun p => ?_⟩
                    rw [putV_get Hf1.out.1]
                    by_cases e : p = xd
                    · rw [if_pos e]
                      show _ = Option.map _ (if p = xd then _ else _)
                      rw [if_pos e]; rfl
                    · rw [if_neg e]
                      show _ = Option.map _ (if p = xd then _ else _)
                      rw [if_neg e]; exact Hf3.out p
                  · have hkb : (x.kind == 1) = false := beq_eq_false_iff_ne.2 hk1
                    have Hsn : Hid (firstF st2.1 (pre ++ [⟨(xi, xd), hxe⟩]) = firstF st2.1 pre) := Lib.hid (by rw [hsn, if_neg (fun h => hk1 (by rw [← hkk]; exact h.1))])
                    clear hlk hgv hm h2 hmb hbx hf1 hf3 hkk hsn hfx hx hoB hgB hk1
                    gi_wp2
                    exact ⟨KeepsFrom.refl _ _, Below.refl _ _, ⟨⟨⟨⟨Hm.out, H2.out⟩, by rw [Hsn.out, List.length_append]; exact ⟨fes, Hf1.out, by omega, Hf3.out⟩⟩, Hmb.out⟩, Hbx.out⟩⟩
            case stop => exact fun D c pre W _ _ h _ => h.elim
            case done =>
              rintro D4 V3 hD4 ⟨⟨⟨⟨hm, h2⟩, hg3⟩, hmb⟩, hbx⟩ hk2
              rw [ents_len] at hg3
              have hfir : firstF st2.1 (ents es) = srcOf es st2.1 := by
                funext b
                rw [← HSt2.out]
                exact firstF_all _ _ _ _ b
              rw [hfir] at hg3
              have hmb2 : MB C w (w.heap.size + 1 + 1) (w.heap.size + 1 + 1 + 1) [D4, D3, D2, D1] V3 := ⟨hmb.below, hmb.rB, hmb.eB, fun D' hD' => by
                rcases List.mem_cons.1 hD' with rfl | h
                · exact ⟨by rw [HCb.out]; omega, hk2⟩
                · exact hmb.marks D' h⟩
              have H1d := Lib.hid hm; have H2d := Lib.hid h2; have H3d := Lib.hid hmb2; have HGd := Lib.hid hg3; have HXd := Lib.hid hbx
              have hD34 : D3 < D4 := by omega
              have hD4V : D4 < V3.heap.size := (Array.getElem?_eq_some_iff.1 hk2).1
              have hgmW : gm + 1 + 1 + 1 < V3.heap.size := by omega
              clear H1c H2c H3c HGc HR1 HR2 HR3 HRG HX1 HTb hfmR hgmR hbsR hgs hD3V hD4 hk2 hm h2 hg3 hmb hmb2 hbx hfir
              have htB0 : Blk V3 (w.heap.size + 1) 25 #[.slice t.NA t.nn t.nc, .slice t.FA t.fn t.fc] := by
                have := H1d.out.tB
                rw [HCtx.out, HCt.out] at this
                exact this
              have t0 := htB0.cell 0; have t1 := htB0.cell 1
              have htl := htB0.lt
              go_wp2_with (go_at_call 33; refine (HCn.out _).mono ?_; rintro e w7 ⟨rfl, rfl⟩)
              clear t0 t1 htB0
              have hgr := World.grownBy_alloc V3 (.cells t.cells 25) none
              have hTb := Blk.new V3 25 t.cells
              obtain ⟨R3, hR⟩ : ∃ V, V3.alloc (.cells t.cells 25) = V := ⟨_, rfl⟩
              obtain ⟨cb, hcb⟩ : ∃ b, V3.heap.size = b := ⟨_, rfl⟩
              rw [hR] at hgr hTb ⊢
              rw [hcb] at hTb ⊢
              have hgs := hgr.size
              have hfmR : C.fm < R3.heap.size := by rw [HCfm.out]; omega
              have hgmR : gm < R3.heap.size := by omega
              have hbsR : w.heap.size ≤ R3.heap.size := by omega
              have hD4R : D4 < R3.heap.size := by omega
              have hHX := HXd.out.grown hgr (by simp)
              have HX1 := Lib.hid hHX; have HTb := Lib.hid hTb
              have HR1 := Lib.hid (H1d.out.still hgr); have HR2 := Lib.hid (HfD.out _ _ hgr H2d.out); have HR3 := Lib.hid (H3d.out.still hgr H1d.out.size); have HRG := Lib.hid (HGd.out.fr (FrM.of_none (B := 0) hgr (Nat.zero_le _) []) (by simp))
              have hc3 : ∀ (W : World) (o : List Src) (i : Nat) (b : ByteArray) (N : Nat), MM1 C W o (freeL ds st2.2) → MM2 C D W → es[i]? = some b → IdxAt W gm N (srcOf es o) → N ≤ 1000 →
                  Calls Try.prog 38 #[.int .i64 i, .string b, .pointer (some ⟨ox, 0, none⟩), .pointer (some ⟨gm + 1, 0, none⟩), .pointer (some ⟨gm + 1 + 1 + 1, 0, none⟩)] W (R3Res C D W o (freeL ds st2.2) i b N) := fun W o i b N h h2 hb h3 hN => by
                have hC := HC.out; have hD := HDd.out
                subst hC hD
                exact round3_any _ _ W o _ h h2 i b hb (HEsz.out i b hb) N h3 hN
              have HC3r := Lib.hid hc3
              clear hTb hgr hR hcb hHX H1d H2d H3d HGd HXd hc3
              refine contents_loop t es cb w.heap.size rfl HTt.out.tree.fl HTt.out.tree.fm HTt.out.dat.len (HTt.out.tree.fs.below HR3.out.below (by rw [HCb.out]; exact Nat.le_refl _)) (fun k x d hx hd => ⟨(HTt.out.dat.at_ k x d hx hd).1, (HTt.out.dat.at_ k x d hx hd).2.below HR3.out.below (by rw [HCb.out]; exact Nat.le_refl _)⟩) hbsR HTb.out
                (fun pre W => ∃ o, fold3 sd st2.1 pre = some o ∧ (((MM1 C W o (freeL ds st2.2) ∧ MM2 C D W) ∧ IdxAt W gm (es.length + pre.length) (srcOf es o)) ∧ MB C w (w.heap.size + 1 + 1) (w.heap.size + 1 + 1 + 1) ([D4, D3, D2, D1]) W) ∧ Blk W xb 78 #[.func (.func 38) #[] #[.pointer (some ⟨ox, 0, none⟩), .pointer (some ⟨gm + 1, 0, none⟩), .pointer (some ⟨gm + 1 + 1 + 1, 0, none⟩)]])
                (fun c pre W => c = .ret ∧ fold3 sd st2.1 pre = none ∧ MBe C w (w.heap.size + 1 + 1) (w.heap.size + 1 + 1 + 1) ([D4, D3, D2, D1]) W)
                (fun pre W W' row hs hg hr => by
                  obtain ⟨o, h0, hs⟩ := hs
                  exact ⟨o, h0, OwnFrom.and (OwnFrom.and (OwnFrom.and (OwnFrom.and (MM1.ownFrom (fun (_ : Unit) => o) (fun _ => freeL ds st2.2) hfmR) (MM2.ownFrom (by rw [HDdm.out]; omega) (by rw [HDam.out]; omega))) (IdxAt.ownFrom (fun _ => es.length + pre.length) (fun _ => srcOf es o) hgmR)) (MB.ownFrom (by rw [HCb.out]; exact hbsR) (by rw [HCb.out]; exact Nat.le_refl _) (fun D' hD' => by simp only [List.mem_cons, List.not_mem_nil, or_false] at hD'; omega))) (fun _ W W' row hs hg hr => (turn_stay hg hr).1.blk hs) () W W' row hs hg hr⟩)
                (fun c pre W W' row hs hg hr => ⟨hs.1, hs.2.1, MBe.ownFrom (β := Unit) (by rw [HCb.out]; exact hbsR) (by rw [HCb.out]; exact Nat.le_refl _) (fun D' hD' => by simp only [List.mem_cons, List.not_mem_nil, or_false] at hD'; omega) () W W' row hs.2.2 hg hr⟩)
                ⟨st2.1, rfl, ⟨⟨⟨HR1.out, HR2.out⟩, HRG.out⟩, HR3.out⟩, HX1.out⟩ ?ab ?done ?stop
              case ab =>
                apply Exists.intro
                refine ⟨?_, ?_⟩
                · intro l x W K hK
                  simp only [encE]
                  gi_wp2
                  exact hK
                · rintro l pre ⟨⟨xi, xd⟩, hxe⟩ W ⟨o, h0, ⟨⟨⟨hm, h2⟩, hg3⟩, hmb⟩, hbx⟩ hlen
                  rw [ents_len, HEl.out] at hlen
                  have hc := HC3r.out W o xi xd (es.length + pre.length) hm h2 hxe hg3 (by rw [HEl.out]; omega)
                  have hfs := fold3_snoc sd st2.1 pre ⟨(xi, xd), hxe⟩
                  rw [h0] at hfs
                  have x0 := hbx.cell 0
                  have hsd : C.sd = sd := HCsd.out
                  have hr0 := hmb.rB.cell 0; have he0 := hmb.eB.cell 0
                  have hrf := hmb.rB.frozen 0; have hef := hmb.eB.frozen 0
                  have hrl := hmb.rB.lt; have hee := hmb.eB.lt
                  have HCc := Lib.hid hc; have Hm := Lib.hid hm; have H2 := Lib.hid h2; have Hg3 := Lib.hid hg3; have Hmb := Lib.hid hmb; have Hbx := Lib.hid hbx; have Hfs := Lib.hid hfs
                  clear hc hm h2 hg3 hmb hbx hfs h0
                  cases hst : step3 es sd o xi xd with
                  | some o' =>
                    have HCy : Hid (Calls Try.prog 38 #[.int .i64 xi, .string xd, .pointer (some ⟨ox, 0, none⟩), .pointer (some ⟨gm + 1, 0, none⟩), .pointer (some ⟨gm + 1 + 1 + 1, 0, none⟩)] W (R3Yes C D W o' (freeL ds st2.2) (es.length + pre.length))) := Lib.hid (HCc.out.mono fun e w' hr => by
                      rcases hr with ⟨o2, q1, q2⟩ | ⟨q1, _⟩
                      · rw [HCes.out, hsd, hst] at q1
                        injection q1 with q1
                        rw [q1]; exact q2
                      · rw [HCes.out, hsd, hst] at q1; cases q1)
                    have Hst := Lib.hid hst
                    clear hst HCc hr0 he0 hrf hef
                    gi_wp2_with (refine ⟨trivial, ?_⟩; gi_at_call 38; refine (CallsIn.inRound l (callsIn_wide.2 HCy.out)).mono ?_; rintro e wq ⟨rfl, hmq, hiq, hfq⟩)
                    rw [HDgm.out] at hiq hfq
                    have hgmm : ∃ ms ck, W.heap[gm]? = some (.map ms ck) := by
                      obtain ⟨fes, q1, _⟩ := Hg3.out
                      exact q1.isMap
                    refine ⟨hfq.keepsFrom hgmR, by rw [← HCb.out]; exact hfq.below, ⟨o', by rw [Hfs.out]; exact Hst.out, ⟨⟨⟨hmq, H2.out.fr hfq hgmm (by rw [HDdm.out]; omega) (by rw [HDam.out]; omega)⟩, ?_⟩, Hmb.out.fr hfq hgmm⟩, hfq.blk Hbx.out (by decide) (by
                      simp only [List.mem_singleton]
                      intro e
                      obtain ⟨ms, ck, hmm⟩ := hgmm
                      rw [← e, show W.heap[xb]? = _ from Hbx.out] at hmm
                      cases hmm)⟩⟩
                    rw [HCes.out] at hiq
                    rw [List.length_append]
                    exact hiq
                  | none =>
                    have HCn2 : Hid (Calls Try.prog 38 #[.int .i64 xi, .string xd, .pointer (some ⟨ox, 0, none⟩), .pointer (some ⟨gm + 1, 0, none⟩), .pointer (some ⟨gm + 1 + 1 + 1, 0, none⟩)] W (fun e w' => e = .returned (.int .i64 32) ∧ w' = W)) := Lib.hid (HCc.out.mono fun e w' hr => by
                      rcases hr with ⟨o2, q1, q2⟩ | ⟨_, q2⟩
                      · rw [HCes.out, hsd, hst] at q1; cases q1
                      · exact q2)
                    have Hst := Lib.hid hst
                    have hrx : w.heap.size + 1 + 1 ≠ w.heap.size + 1 + 1 + 1 := by omega
                    have hmiss := Hmb.out.miss (by rw [HCb.out]; omega) (by rw [HCb.out]; omega)
                    have HMi := Lib.hid hmiss
                    clear hst HCc hmiss
                    gi_wp2_with (refine ⟨trivial, ?_⟩; gi_at_call 38; refine (CallsIn.inRound l (callsIn_wide.2 HCn2.out)).mono ?_; rintro e wq ⟨rfl, hwq⟩; rw [hwq]; clear hwq)
                    exact ⟨((KeepsOthers.setCell _ _ _).trans (KeepsOthers.setCell _ _ _)).from _, rfl, by rw [Hfs.out]; exact Hst.out, HMi.out⟩
              case stop =>
                rintro D5 c pre W hD5 ⟨post, hpre⟩ ⟨rfl, hf, hbe⟩ hk
                have hup : upto3 s.nodes t.nodes ds es sd es.length = none := by
                  have h := fold3_none sd st2.1 pre post hf
                  rw [hpre, ← HSt2.out, fold3_all] at h
                  exact h
                have hE := HE.out
                have hL := HLl.out
                rw [hup] at hE hL
                subst hE hL
                have hbW : Below w.heap.size w W := by have := hbe.below; rw [HCb.out] at this; exact this
                have hmk : ∀ D' ∈ [D5, D4, D3, D2, D1], w.heap.size ≤ D' ∧ W.heap[D']? = some (.deferred (some [])) := fun D' hD' => by
                  rcases List.mem_cons.1 hD' with rfl | h
                  · exact ⟨by omega, hk⟩
                  · have := hbe.marks D' h
                    rw [HCb.out] at this
                    exact this
                have hnd : [D5, D4, D3, D2, D1].Nodup := by simp; omega
                have hrB := hbe.rB; have heB := hbe.eB
                have Hmk := Lib.hid hmk; have HrB := Lib.hid hrB; have HeB := Lib.hid heB
                clear hmk hrB heB hbe
                go_wp2
                refine leaves_marks (n := 5) (base := w.heap.size) [D5, D4, D3, D2, D1] W hnd Hmk.out ?_
                intro W' hB' hc'
                have r0 := (show Blk W' (w.heap.size + 1 + 1) _ _ from hc' _ _ _ _ HrB.out).cell 0
                have e0 := (show Blk W' (w.heap.size + 1 + 1 + 1) _ _ from hc' _ _ _ _ HeB.out).cell 0
                refine ⟨_, (results_cell_cc rfl _ _ _).trans (by go_simp), none, 0, 0, rfl, rfl, ⟨rfl, fun h => absurd h (by omega)⟩, hbW.trans hB'⟩
              case done =>
                rintro D5 W hD5 ⟨o, h0, ⟨⟨⟨hm, h2⟩, hg3⟩, hmb⟩, hbx⟩ hk
                have hup : upto3 s.nodes t.nodes ds es sd es.length = some o := by
                  rw [← fold3_all, HSt2.out]; exact h0
                have hE := HE.out
                have hL := HLl.out
                rw [hup] at hE hL
                subst hE hL
                have hbW : Below w.heap.size w W := by have := hmb.below; rw [HCb.out] at this; exact this
                have hmk : ∀ D' ∈ [D5, D4, D3, D2, D1], w.heap.size ≤ D' ∧ W.heap[D']? = some (.deferred (some [])) := fun D' hD' => by
                  rcases List.mem_cons.1 hD' with rfl | h
                  · exact ⟨by omega, hk⟩
                  · have := hmb.marks D' h
                    rw [HCb.out] at this
                    exact this
                have hnd : [D5, D4, D3, D2, D1].Nodup := by simp; omega
                have hrB := hmb.rB; have heB := hmb.eB
                have hoB := hm.oB; have hoR := hm.oR; have hol := hm.ol
                rw [HCox.out, HCog.out, HCes.out] at hoB
                rw [HCog.out, HCes.out, HCb.out] at hoR
                rw [HCes.out] at hol
                have o0 := hoB.cell 0
                have hr0 := hrB.cell 0; have he0 := heB.cell 0
                have hrf := hrB.frozen 0; have hef := heB.frozen 0
                have hrl := hrB.lt; have hee := heB.lt
                have hrx : w.heap.size + 1 + 1 ≠ w.heap.size + 1 + 1 + 1 := by omega
                have Hmk := Lib.hid hmk; have HrB := Lib.hid hrB; have HeB := Lib.hid heB; have HoR := Lib.hid hoR; have HoB := Lib.hid hoB; have Hol := Lib.hid hol
                clear hmk hrB heB hm h2 hg3 hmb hbx hoB hoR hol h0 hup
                go_wp2
                rw [rounds_succ]
                go_wp2
                have hR2 := (HrB.out.set 0 (.slice (some ⟨og, 0, none⟩) es.length es.length)).set_ne ⟨w.heap.size + 1 + 1 + 1, 0, none⟩ (.int .i64 0) hrx
                have hE1 := HeB.out.set_ne ⟨w.heap.size + 1 + 1, 0, none⟩ (.slice (some ⟨og, 0, none⟩) es.length es.length) (fun e => hrx e.symm)
                have hE2 := hE1.set 0 (.int .i64 0)
                have ho2 := own_blkset (own_blkset HoR.out HrB.out (by decide) 0 (.slice (some ⟨og, 0, none⟩) es.length es.length)) hE1 (by decide) 0 (.int .i64 0)
                have hb2 := (hbW.setCell (p := ⟨w.heap.size + 1 + 1, 0, none⟩) (by show w.heap.size ≤ w.heap.size + 1 + 1; omega) (.slice (some ⟨og, 0, none⟩) es.length es.length)).setCell (p := ⟨w.heap.size + 1 + 1 + 1, 0, none⟩) (by show w.heap.size ≤ w.heap.size + 1 + 1 + 1; omega) (.int .i64 0)
                have hmk2 : ∀ D' ∈ [D5, D4, D3, D2, D1], w.heap.size ≤ D' ∧ ((W.setCell ⟨w.heap.size + 1 + 1, 0, none⟩ (.slice (some ⟨og, 0, none⟩) es.length es.length)).setCell ⟨w.heap.size + 1 + 1 + 1, 0, none⟩ (.int .i64 0)).heap[D']? = some (.deferred (some [])) := fun D' hD' => by
                  obtain ⟨q1, q2⟩ := Hmk.out D' hD'
                  refine ⟨q1, ?_⟩
                  rw [heap_setCell_other _ ⟨w.heap.size + 1 + 1 + 1, 0, none⟩ D' _ (fun e => by have h1 := HeB.out; unfold Blk at h1; rw [e] at q2; rw [show W.heap[w.heap.size + 1 + 1 + 1]? = _ from h1] at q2; cases q2), heap_setCell_other _ ⟨w.heap.size + 1 + 1, 0, none⟩ D' _ (fun e => by have h1 := HrB.out; unfold Blk at h1; rw [e] at q2; rw [show W.heap[w.heap.size + 1 + 1]? = _ from h1] at q2; cases q2)]
                  exact q2
                obtain ⟨V, hV⟩ : ∃ V, (W.setCell ⟨w.heap.size + 1 + 1, 0, none⟩ (.slice (some ⟨og, 0, none⟩) es.length es.length)).setCell ⟨w.heap.size + 1 + 1 + 1, 0, none⟩ (.int .i64 0) = V := ⟨_, rfl⟩
                rw [hV] at hR2 hE2 ho2 hb2 hmk2 ⊢
                refine leaves_marks (n := 5) (base := w.heap.size) [D5, D4, D3, D2, D1] V hnd hmk2 ?_
                intro W' hB' hc'
                have r0 := (show Blk W' (w.heap.size + 1 + 1) _ _ from hc' _ _ _ _ hR2).cell 0
                have e0 := (show Blk W' (w.heap.size + 1 + 1 + 1) _ _ from hc' _ _ _ _ hE2).cell 0
                refine ⟨_, (results_cell_cc rfl _ _ _).trans (by go_simp), some ⟨og, 0, none⟩, es.length, es.length, rfl, Hol.out, Sl.of_own (CellsStay.own ⟨hB'.size, hc'⟩ ho2), hb2.trans hB'⟩
end Go.Proofs.Ytcnpncieibmngaa
