/- shuntref11.Fresh: the contents that no file of s has, each once. -/
import Derived.Test.YtcnpncieibmngaaRMatch0
import Derived.Test.YtcnpncieibmngaaFresh
namespace Go.Proofs.Ytcnpncieibmngaa
open Go.RowKit

/-- A list of contents in rows of the call's own. -/
structure ORows (W : World) (base : Nat) (A : Option Addr) (n c : Nat) (ss : List SC) (xs : List ByteArray) : Prop where
  len : ss.length = n
  dlen : xs.length = n
  own : W.ownsRow base 45 1 (.slice A n c) n (ss.flatMap SC.list)
  row : ∀ (k : Nat) (x : SC) (d : ByteArray), ss[k]? = some x → xs[k]? = some d → d.size = x.n ∧ W.ownsRow base 5 1 (.slice x.A x.n x.c) x.n (bytesC d)
theorem ORows.below {W W' : World} {base n c : Nat} {A : Option Addr} {ss : List SC} {xs : List ByteArray} (h : ORows W base A n c ss xs) (hb : Below W.heap.size W W') : ORows W' base A n c ss xs :=
  { h with
    own := own_keep h.own fun g o e => hb.block g (own_lt2 (by rw [← e]; exact h.own)).2.1
    row := fun k x d hx hd => ⟨(h.row k x d hx hd).1, own_keep (h.row k x d hx hd).2 fun g o e => hb.block g (own_lt2 (by rw [← e]; exact (h.row k x d hx hd).2)).2.1⟩ }
theorem ORows.stock {W : World} {base n c : Nat} {A : Option Addr} {ss : List SC} {xs : List ByteArray} (h : ORows W base A n c ss xs) (hn : n ≤ 9223372036854775807) : StockAt W A n ss xs :=
  ⟨h.len, Sl.of_own h.own, h.dlen, fun k x d hx hd => ⟨(h.row k x d hx hd).1, Sl.of_own (h.row k x d hx hd).2⟩, hn⟩
theorem ORows.snoc {W W' : World} {base n c c6 : Nat} {A : Option Addr} {ss : List SC} {xs : List ByteArray} {g6 : Nat} {x : SC} {d : ByteArray} (h : ORows W base A n c ss xs) (hd : d.size = x.n) (hx : W.ownsRow base 5 1 (.slice x.A x.n x.c) x.n (bytesC d))
    (ho : W'.ownsRow base 45 1 (.slice (some ⟨g6, 0, none⟩) (n + 1) c6) (n + 1) (ss.flatMap SC.list ++ [.slice x.A x.n x.c])) (hg : W.grownBy W' (blkOf A)) : ORows W' base (some ⟨g6, 0, none⟩) (n + 1) c6 (ss ++ [x]) (xs ++ [d]) := by
  have keep : ∀ {n' c' : Nat} {A' : Option Addr} {L : List Value}, W.ownsRow base 5 1 (.slice A' n' c') n' L → W'.ownsRow base 5 1 (.slice A' n' c') n' L := fun {n' c' A' L} hr =>
    own_keep hr fun g o e => hg.block g (own_lt2 (by rw [← e]; exact hr)).2.1 (row_ne_row hr h.own (by decide) (by rw [e]; rfl))
  refine ⟨by rw [List.length_append, h.len]; rfl, by rw [List.length_append, h.dlen]; rfl, by rw [List.flatMap_append]; exact ho, fun k y e hy he => ?_⟩
  rcases Nat.lt_trichotomy k n with hk | hk | hk
  · rw [List.getElem?_append_left (by rw [h.len]; exact hk)] at hy
    rw [List.getElem?_append_left (by rw [h.dlen]; exact hk)] at he
    exact ⟨(h.row k y e hy he).1, keep (h.row k y e hy he).2⟩
  · subst hk
    rw [List.getElem?_append_right (by rw [h.len]; exact Nat.le_refl _), h.len, Nat.sub_self] at hy
    rw [List.getElem?_append_right (by rw [h.dlen]; exact Nat.le_refl _), h.dlen, Nat.sub_self] at he
    simp only [List.getElem?_cons_zero, Option.some.injEq] at hy he
    subst hy he
    exact ⟨hd, keep hx⟩
  · rw [List.getElem?_eq_none (by rw [List.length_append, h.len, List.length_singleton]; omega)] at hy; cases hy
def RFreshRes (xs : List ByteArray) (w : World) (e : Ending) (w' : World) : Prop :=
  ∃ (A : Option Addr) (n c : Nat) (ss : List SC), e = .returned (.slice A n c) ∧ ORows w' w.heap.size A n c ss xs ∧ Below w.heap.size w w'
def RF (w : World) (s t : TV) (v : Value) (N : Nat) (xs : List ByteArray) (W : World) : Prop :=
  ∃ (A : Option Addr) (n c : Nat) (ss : List SC), v = .slice A n c ∧ n ≤ N ∧ ORows W w.heap.size A n c ss xs ∧ Blk W w.heap.size 25 #[.slice s.NA s.nn s.nc, .slice s.FA s.fn s.fc] ∧ Blk W (w.heap.size + 1) 25 #[.slice t.NA t.nn t.nc, .slice t.FA t.fn t.fc] ∧ Below w.heap.size w W
set_option maxRecDepth 100000 in
set_option maxHeartbeats 8000000 in
theorem rfresh_any (s t : TV) (ds es : List ByteArray) (w : World) (hs : TreeD w s ds) (ht : TreeD w t es) (gs : Good s) (gt : Good t) :
    Calls Try.prog 25 #[s.val, t.val] w (RFreshRes (freshL ds es) w) := by
  have hds : ds.length = s.fn := hs.dat.len.trans hs.tree.fl
  have hes : es.length = t.fn := ht.dat.len.trans ht.tree.fl
  have hsn := gs.fn; have htn := gt.fn
  have HS := Lib.hid hs; have HT := Lib.hid ht; have HDs := Lib.hid hds; have HEs := Lib.hid hes; have Gt := Lib.hid gt
  clear hs ht hds hes gs gt
  unfold TV.val
  have hB1 := (Blk.new w 25 #[.slice s.NA s.nn s.nc, .slice s.FA s.fn s.fc]).alloc (.cells #[.slice t.NA t.nn t.nc, .slice t.FA t.fn t.fc] 25)
  have hB2 := Blk.new (w.alloc (.cells #[.slice s.NA s.nn s.nc, .slice s.FA s.fn s.fc] 25)) 25 #[.slice t.NA t.nn t.nc, .slice t.FA t.fn t.fc]
  have hb := ((Below.refl w.heap.size w).alloc (Nat.le_refl _) (.cells #[.slice s.NA s.nn s.nc, .slice s.FA s.fn s.fc] 25)).alloc (by simp) (.cells #[.slice t.NA t.nn t.nc, .slice t.FA t.fn t.fc] 25)
  simp only [World.size_alloc] at hB2
  go_enter Try.func25, Try.ntmps25
  go_wp2
  go_loopw [5, 6] (fun v fv wr => ∃ f : Nat, f ≤ t.fn ∧ fv = .int .i64 f ∧ RF w s t v f (freshRun ds (es.take f)) wr) (fun _ fv _ => t.fn - (intOf fv).toNat)
  case atStart => exact ⟨0, Nat.zero_le _, rfl, none, 0, 0, [], rfl, Nat.le_refl _, ⟨rfl, rfl, World.ownsRow_nil _ _ _ _, fun k x d h => (by simp at h)⟩, hB1, hB2, hb⟩
  case round =>
    clear hB1 hB2 hb
    obtain ⟨f, hf, rfl, A, n, c, ss, rfl, hnf, hO, hB1, hB2, hb⟩ := hrel
    have HO := Lib.hid hO; clear hO
    have t1 := hB2.cell 1
    by_cases hlt : f < t.fn
    case neg =>
      obtain rfl : f = t.fn := by omega
      have hfi : ¬ ((t.fn : Nat) : Int) < t.fn := by omega
      have HX := Lib.hid (show freshRun ds (es.take t.fn) = freshL ds es by rw [List.take_of_length_le (by rw [HEs.out]; exact Nat.le_refl _)]; rfl)
      go_wp2
      go_ret
      exact ⟨A, n, c, ss, rfl, by rw [← HX.out]; exact HO.out, hb⟩
    have hfi : (f : Int) < t.fn := by omega
    obtain ⟨b, hbb⟩ : ∃ b, es[f]? = some b := ⟨_, List.getElem?_eq_getElem (by rw [HEs.out]; exact hlt)⟩
    have HB := Lib.hid hbb; clear hbb
    obtain ⟨W0, rfl⟩ : ∃ W0 : World, W0 = wr := ⟨_, rfl⟩
    have H1 := Lib.hid hB1; have H2 := Lib.hid hB2; have Hb := Lib.hid hb
    clear hB1 hB2 hb
    go_wp2
    clear t1
    go_loopw [7, 8] (fun v gv wr => ∃ g : Nat, g ≤ s.fn ∧ gv = .int .i64 g ∧ v = .bool ((ds.take g).any fun d => decide (d = b)) ∧ Below W0.heap.size W0 wr) (fun _ gv _ => s.fn - (intOf gv).toNat)
    case atStart => exact ⟨0, Nat.zero_le _, rfl, rfl, Below.refl _ _⟩
    case round =>
      obtain ⟨g, hg, rfl, rfl, hbr⟩ := hrel
      have hB1 := H1.out.below hbr H1.out.lt; have hB2 := H2.out.below hbr H2.out.lt
      have hb := Hb.out.trans (hbr.mono Hb.out.size)
      have b1 := hB1.cell 1; have t1 := hB2.cell 1
      have hBl1 := hB1.lt; have hBl2 := hB2.lt
      have hTr := HT.out.keep hb
      obtain ⟨tb, to_, fy, htA, htb, hfy, htc⟩ := hTr.tree.fs.get FC.len hTr.tree.fl hlt
      rw [htA] at t1
      obtain ⟨e, he, hen, heS⟩ := hTr.dat.get hfy
      obtain rfl : b = e := by rw [HB.out] at he; injection he
      have e1 := htc 1 _ rfl
      have SE := Lib.hid heS; have NE := Lib.hid hen
      have hfyn := Gt.out.small fy (List.mem_of_getElem? hfy)
      have htA' := Lib.hid htA
      clear htc hfy he hen heS htA hTr
      by_cases hgl : g < s.fn
      · have hgi : (g : Int) < s.fn := by omega
        have hSr := HS.out.keep hb
        obtain ⟨sb, so, fx, hsA, hsb, hfx, hsc⟩ := hSr.tree.fs.get FC.len hSr.tree.fl hgl
        rw [hsA] at b1
        obtain ⟨d, hd, hdn, hdS⟩ := hSr.dat.get hfx
        have s1 := hsc 1 _ rfl
        have SD := Lib.hid hdS; have ND := Lib.hid hdn
        have hbb := ba_bb d b
        obtain ⟨eq, heq⟩ : ∃ eq, decide (d = b) = eq := ⟨_, rfl⟩
        rw [heq] at hbb
        have HBb := Lib.hid hbb
        have HSn := Lib.hid (show ((ds.take (g + 1)).any fun d => decide (d = b)) = (((ds.take g).any fun d => decide (d = b)) || eq) by rw [take_snoc' hd, List.any_append, ← heq]; simp)
        obtain ⟨old, hold⟩ : ∃ old, ((ds.take g).any fun d => decide (d = b)) = old := ⟨_, rfl⟩
        rw [hold] at HSn ⊢
        have Hbr := Lib.hid hbr
        clear hsc hfx hd hdn hdS hsA hbb heq hSr hold hbr
        go_upto_region 9 with (fail)
        refine wp_region_ordB (none) [(0, true), (1, true), (2, true), (3, true), (4, true), (5, true), (6, true), (7, true), (8, true), (9, true), (10, true), (11, true), (12, false), (13, true)] (by kernel_rfl) (by kernel_rfl) fun hG0 => ?_
        repeat (first
          | (refine ord_skipB rfl (by rfl) ?_; simp only [Act.put, List.setIfInBounds_toArray, List.set_cons_zero, List.set_cons_succ])
          | (refine ord_qE rfl (by rfl) ?_; apply Exists.intro; refine ⟨fun w' hc' => ?_, ?_⟩; (focus (go_simp; (try go_bits); (try simp only [↓IntWalk.iteOmega]); with_reducible rfl)); simp only [Act.put, List.setIfInBounds_toArray, List.set_cons_zero, List.set_cons_succ]))
        refine ord_eB rfl fun K hK => ?_
        go_wp2_with (go_at_call 43; refine (same11_any _ _ _ d _ _ _ b _ (SD.out.below (below_grown hG0 (Nat.le_refl _) (fun g e => by cases e)) (Nat.le_refl _)) ND.out (SE.out.below (below_grown hG0 (Nat.le_refl _) (fun g e => by cases e)) (Nat.le_refl _)) NE.out).mono ?_; rintro e w7 ⟨rfl, hw⟩; rw [hw, HBb.out]; clear hw)
        have hG1 := grown_trans hG0 (World.grownBy.refl _ _)
        refine hK.out _ _ hG1 ?_
        clear hK K
        repeat (first
          | (refine ord_skipB rfl (by rfl) ?_; simp only [Act.put, List.setIfInBounds_toArray, List.set_cons_zero, List.set_cons_succ])
          | (refine ord_qE rfl (by rfl) ?_; apply Exists.intro; refine ⟨fun w' hc' => ?_, ?_⟩; (focus (go_simp; (try go_bits); (try simp only [↓IntWalk.iteOmega]); with_reducible rfl)); simp only [Act.put, List.setIfInBounds_toArray, List.set_cons_zero, List.set_cons_succ]))
        refine ord_end ?_
        have hb7 : Below W0.heap.size W0 wr.drew := Hbr.out.drew
        clear s1 e1 b1 t1 hG0 hG1
        cases old
        all_goals
          go_wp2
          go_roundw
          case rel => exact ⟨g + 1, by omega, by go_num, by rw [HSn.out]; rfl, hb7⟩
          case measure => simp [intOf]; omega
      · obtain rfl : g = s.fn := by omega
        have hgi : ¬ ((s.fn : Nat) : Int) < s.fn := by omega
        have hO := HO.out.below hbr
        have HSt := Lib.hid (hO.stock (by omega))
        have HOr := Lib.hid hO
        rw [List.take_of_length_le (by rw [HDs.out]; exact Nat.le_refl _)]
        have HOld := Lib.hid (show (ds.any fun d => decide (d = b)) = true ↔ b ∈ ds by rw [List.any_eq_true]; exact ⟨fun ⟨d, h1, h2⟩ => by rw [← of_decide_eq_true h2]; exact h1, fun h => ⟨b, h, decide_eq_true rfl⟩⟩)
        have HSnoc := Lib.hid (show freshRun ds (es.take (f + 1)) = if b ∈ ds ∨ b ∈ es.take f then freshRun ds (es.take f) else freshRun ds (es.take f) ++ [b] by rw [take_snoc' HB.out, freshRun_snoc])
        obtain ⟨old, hold⟩ : ∃ old, (ds.any fun d => decide (d = b)) = old := ⟨_, rfl⟩
        rw [hold] at HOld ⊢
        have hbs := hb.size
        clear hold hO hbr
        cases old
        · have hnd : b ∉ ds := fun h => by have := HOld.out.2 h; cases this
          have HFm := Lib.hid (show b ∈ freshRun ds (es.take f) ↔ b ∈ es.take f from by rw [freshRun_mem]; exact ⟨fun h => h.1, fun h => ⟨h, hnd⟩⟩)
          obtain ⟨xs, hxs⟩ : ∃ xs, freshRun ds (es.take f) = xs := ⟨_, rfl⟩
          rw [hxs] at HSt HOr HSnoc HFm
          obtain ⟨fd, hfd⟩ : ∃ fd, findE xs b = fd := ⟨_, rfl⟩
          have HFd := Lib.hid hfd
          have hcase : (fd < 0 ∧ b ∉ xs) ∨ (¬ fd < 0 ∧ b ∈ xs) := by
            rw [← hfd]
            cases hq : stockAt xs b with
            | none =>
              refine .inl ⟨by unfold findE; rw [hq]; decide, fun hm => ?_⟩
              obtain ⟨j, hj⟩ := List.getElem?_of_mem hm
              have := List.find?_eq_none.1 hq j (List.mem_range.2 (List.getElem?_eq_some_iff.1 hj).1)
              simp [hj] at this
            | some k =>
              refine .inr ⟨by unfold findE; rw [hq]; show ¬ (k : Int) < 0; omega, ?_⟩
              exact List.mem_of_getElem? (of_decide_eq_true (find_range_some hq).2.1)
          have HNd := Lib.hid hnd
          clear hfd hxs hnd
          rcases hcase with ⟨h1, h2⟩ | ⟨h1, h2⟩
          · have HX := Lib.hid (show freshRun ds (es.take (f + 1)) = xs ++ [b] from by
              rw [HSnoc.out, if_neg]
              rintro (h | h)
              · exact HNd.out h
              · exact h2 (HFm.out.2 h))
            clear h2
            go_upto_region 12 with (go_at_call 27; refine (rfind10_any A n c ss xs _ _ _ b _ HSt.out SE.out NE.out).mono ?_; rintro e w8 ⟨rfl, hb8⟩; rw [HFd.out])
            have hB18 := hB1.below hb8 hBl1; have hB28 := hB2.below hb8 hBl2
            have HO8 := Lib.hid (HOr.out.below hb8)
            have hb9 := hb.trans (hb8.mono hb.size)
            have hSE8 := SE.out.below hb8 (Nat.le_refl _)
            rw [bytesC_i8] at hSE8
            have SE8 := Lib.hid hSE8
            have t8 := hB28.cell 1
            rw [htA'.out] at t8
            have e8 := (hb8.cell (p := ⟨tb, to_ + f * 2 + 1, none⟩) htb).trans e1
            have hb8s := hb9.size
            clear t1 b1 e1 hB1 hB2 hb8 hSE8 hb
            have hbn : b.size ≤ 8192 := by rw [NE.out]; exact hfyn
            go_wp2_with (first | (at_builtin; refine wpList_append_sl rfl _ _ _ rfl Try.u8T rfl (World.ownsRow_nil w8 w.heap.size _ _) rfl SE8.out (i8C_one _) (by unfold maxLen; omega) (by omega) hb8s ?_; intro A4 c4 w4 ho4 hg4 hat4; simp only [Nat.zero_add, List.nil_append] at ho4 ⊢; have HO4 := Lib.hid (HO8.out.below (below_grown hg4 (Nat.le_refl _) (fun g e => by cases e)))) | (at_builtin; refine wpList_append_one rfl _ _ _ rfl Try.bsT rfl HO4.out.own #[.slice A4 fy.n c4] rfl (by first | rfl | simp) rfl (by simp [Value.oneCell']) (by unfold maxLen; omega) (by omega) (Nat.le_trans hb8s hg4.size) ?_; intro g6 c6 w6 ho6 hg6 hat6))
            have hg4' : w8.grownBy w4 none := hg4
            have hB14 := hB18.grown hg4' (by simp); have hB24 := hB28.grown hg4' (by simp)
            have hB16 := hB14.grown hg6 (hB14.ne_row HO4.out.own (by decide)); have hB26 := hB24.grown hg6 (hB24.ne_row HO4.out.own (by decide))
            have hb4 := hb9.trans (below_grown hg4' hb9.size (fun g e => by cases e))
            have hb6 := hb4.trans (below_grown hg6 hb4.size (fun g e => own_blk1 HO4.out.own g e))
            have HO6 := Lib.hid (HO4.out.snoc (x := ⟨A4, fy.n, c4⟩) (d := b) NE.out (by rw [bytesC_i8]; exact ho4) ho6 hg6)
            clear t8 e8 hg4 hg4' hat4 ho4 ho6 hg6 hat6 hB14 hB24 hB18 hB28 hb4 hb9
            go_roundw
            case rel => exact ⟨f + 1, by omega, by go_num, some ⟨g6, 0, none⟩, n + 1, c6, _, rfl, by omega, by rw [HX.out]; exact HO6.out, hB16, hB26, hb6⟩
            case measure => simp [intOf]; omega
          · have HX := Lib.hid (show freshRun ds (es.take (f + 1)) = xs from by rw [HSnoc.out, if_pos (.inr (HFm.out.1 h2))])
            clear h2
            go_wp2_with (go_at_call 27; refine (rfind10_any A n c ss xs _ _ _ b _ HSt.out SE.out NE.out).mono ?_; rintro e w8 ⟨rfl, hb8⟩; rw [HFd.out])
            have hB18 := hB1.below hb8 hBl1; have hB28 := hB2.below hb8 hBl2
            have HO8 := Lib.hid (HOr.out.below hb8)
            have hb9 := hb.trans (hb8.mono hb.size)
            go_roundw
            case rel => exact ⟨f + 1, by omega, by go_num, A, n, c, ss, rfl, by omega, by rw [HX.out]; exact HO8.out, hB18, hB28, hb9⟩
            case measure => simp [intOf]; omega
        · have HX := Lib.hid (show freshRun ds (es.take (f + 1)) = freshRun ds (es.take f) from by rw [HSnoc.out, if_pos (.inl (HOld.out.1 rfl))])
          go_wp2
          go_roundw
          case rel => exact ⟨f + 1, by omega, by go_num, A, n, c, ss, rfl, by omega, by rw [HX.out]; exact HOr.out, hB1, hB2, hb⟩
          case measure => simp [intOf]; omega
end Go.Proofs.Ytcnpncieibmngaa
