/- shuntref7.without, made. What shuntref7.Do makes of nodes and files is what an instruction makes of the world. -/
import Derived.Test.YthmeffpickejkaaGreatRCanon
import Derived.Test.YthmeffpickejkaaGreatViews

namespace Go.Proofs.YthmeffpickejkaaGreat
open Go.RowKit

def WithoutRes (l : List Node) (k : Nat) (w : World) (e : Ending) (w' : World) : Prop :=
  ∃ A c, e = .returned (.slice A (l.length - 1) c) ∧ w'.ownsRow w.heap.size 56 3 (.slice A (l.length - 1) c) (l.length - 1) ((l.take k ++ l.drop (k + 1)).flatMap Node.list) ∧ Below w.heap.size w w'
set_option maxRecDepth 100000 in
set_option maxHeartbeats 4000000 in
theorem rwithout_any (l : List Node) (g n c k b0 : Nat) (w : World) (ho : w.ownsRow b0 56 3 (.slice (some ⟨g, 0, none⟩) n c) n (l.flatMap Node.list)) (hn : l.length = n) (hk : k < n) (hn1 : n ≤ 100000) :
    Calls Tryz.prog 46 #[.slice (some ⟨g, 0, none⟩) n c, .int .i64 k] w (WithoutRes l k w) := by
  have hnc := (own_row ho).2.2.2.1
  have hcm := (own_row ho).2.2.2.2
  unfold maxLen at hcm
  have HPRE := Lib.hid (show Sl w w.heap.size 3 (some ⟨g, 0, none⟩) k ((l.take k).flatMap Node.list) by rw [← flat_take Node.len]; exact (Sl.of_own ho).first (by omega))
  have hki : (k : Int) < n := by omega
  have hkc : (k : Int) ≤ c := by omega
  have hkc1 : (k : Int) + 1 ≤ n := by omega
  have hrow := (own_row ho).1
  have hgl := (own_row ho).2.2.1
  clear ho
  subst hn
  by_cases h1 : k + 1 < c
  · have h1i : (k : Int) + 1 < c := by omega
    have hsuf : ∀ w', Below w.heap.size w w' → Sl w' w'.heap.size 3 (some ⟨g, (k + 1) * 3, none⟩) (l.length - (k + 1)) ((l.drop (k + 1)).flatMap Node.list) := fun w' hb => ⟨by rw [flat_length Node.len, List.length_drop], fun _ => ⟨g, (k + 1) * 3, rfl, by have := hb.size; omega, by
      rw [← flat_drop Node.len]
      have := (hrow.drop ((k + 1) * 3)).keep (hb.block g hgl)
      rwa [Nat.zero_add] at this⟩⟩
    have HSUF := Lib.hid hsuf
    clear hsuf hrow
    go_enter Tryz.func46, Tryz.ntmps46
    go_upto_region 1 with (fail)
    refine wp_region_ordB (none) [(0, true), (1, true), (2, true), (4, true), (5, true), (6, true), (7, true), (3, false), (8, false), (9, true)] (by kernel_rfl) (by kernel_rfl) fun hG0 => ?_
    repeat (first
      | (refine ord_skipB rfl (by rfl) ?_; simp only [Act.put, List.setIfInBounds_toArray, List.set_cons_zero, List.set_cons_succ])
      | (refine ord_qE rfl (by rfl) ?_; apply Exists.intro; refine ⟨fun w' hc' => ?_, ?_⟩; (focus (go_simp; (try go_bits); (try simp only [↓IntWalk.iteOmega]); with_reducible rfl)); simp only [Act.put, List.setIfInBounds_toArray, List.set_cons_zero, List.set_cons_succ]))
    refine ord_eB rfl fun K hK => ?_
    go_wp2_with (at_builtin; refine wpList_append_sl (m := k) (B := w.heap.size) (L2 := (l.take k).flatMap Node.list) rfl _ _ _ rfl Tryz.nodeT rfl (World.ownsRow_nil w.drew w.heap.size _ _) rfl HPRE.out (node_one _) (by unfold maxLen; omega) (by omega) (Nat.le_refl _) ?_; intro A4 c4 w4 ho4 hg4 hat4; simp only [Nat.zero_add, List.nil_append] at ho4 ⊢)
    have hG1 := grown_trans hG0 (hg4)
    refine hK.out _ _ hG1 ?_
    clear hK K
    repeat (first
      | (refine ord_skipB rfl (by rfl) ?_; simp only [Act.put, List.setIfInBounds_toArray, List.set_cons_zero, List.set_cons_succ])
      | (refine ord_qE rfl (by rfl) ?_; apply Exists.intro; refine ⟨fun w' hc' => ?_, ?_⟩; (focus (go_simp; (try go_bits); (try simp only [↓IntWalk.iteOmega]); with_reducible rfl)); simp only [Act.put, List.setIfInBounds_toArray, List.set_cons_zero, List.set_cons_succ]))
    have HS4 := Lib.hid (HSUF.out w4 (below_grown hG1 (Nat.le_refl _) (fun g e => by cases e)))
    refine ord_eB rfl fun K hK => ?_
    go_wp2_with (at_builtin; refine wpList_append_sl (m := (l.length - (k + 1))) (c2 := (c - (k + 1))) (L2 := (l.drop (k + 1)).flatMap Node.list) rfl _ _ _ rfl Tryz.nodeT rfl ho4 rfl HS4.out (node_one _) (by unfold maxLen; omega) (by omega) hG1.size ?_; intro A5 c5 w5 ho5 hg5 hat5)
    have hG2 := grown_own hG1 hg5 (fun g e => (hat4 g e).imp (fun h => by cases h) (fun h => h))
    refine hK.out _ _ hG2 ?_
    clear hK K
    repeat (first
      | (refine ord_skipB rfl (by rfl) ?_; simp only [Act.put, List.setIfInBounds_toArray, List.set_cons_zero, List.set_cons_succ])
      | (refine ord_qE rfl (by rfl) ?_; apply Exists.intro; refine ⟨fun w' hc' => ?_, ?_⟩; (focus (go_simp; (try go_bits); (try simp only [↓IntWalk.iteOmega]); with_reducible rfl)); simp only [Act.put, List.setIfInBounds_toArray, List.set_cons_zero, List.set_cons_succ]))
    refine ord_end ?_
    have HL := Lib.hid (show (l.take k ++ l.drop (k + 1)).flatMap Node.list = (l.take k).flatMap Node.list ++ (l.drop (k + 1)).flatMap Node.list by simp)
    have Hm := Lib.hid (show k + (l.length - (k + 1)) = l.length - 1 by omega)
    go_wp2
    go_ret
    refine ⟨A5, c5, by rw [← Hm.out]; rfl, ?_, below_grown hG2 (Nat.le_refl _) (fun g e => by cases e)⟩
    rw [HL.out, ← Hm.out]
    exact ho5
  · obtain rfl : c = k + 1 := by omega
    have hl1 : l.length = k + 1 := by omega
    have hd0 : (l.drop (k + 1)).flatMap Node.list = [] := by rw [List.drop_of_length_le (by omega)]; rfl
    have hsuf : ∀ w', Below w.heap.size w w' → Sl w' w'.heap.size 3 (some ⟨g, 0, none⟩) 0 ((l.drop (k + 1)).flatMap Node.list) := fun w' hb => ⟨by rw [hd0]; rfl, fun h => absurd h (by omega)⟩
    have HSUF := Lib.hid hsuf
    clear hsuf hrow hd0
    go_enter Tryz.func46, Tryz.ntmps46
    go_upto_region 1 with (fail)
    refine wp_region_ordB (none) [(0, true), (1, true), (2, true), (4, true), (5, true), (6, true), (7, true), (3, false), (8, false), (9, true)] (by kernel_rfl) (by kernel_rfl) fun hG0 => ?_
    repeat (first
      | (refine ord_skipB rfl (by rfl) ?_; simp only [Act.put, List.setIfInBounds_toArray, List.set_cons_zero, List.set_cons_succ])
      | (refine ord_qE rfl (by rfl) ?_; apply Exists.intro; refine ⟨fun w' hc' => ?_, ?_⟩; (focus (go_simp; (try go_bits); (try simp only [↓IntWalk.iteOmega]); with_reducible rfl)); simp only [Act.put, List.setIfInBounds_toArray, List.set_cons_zero, List.set_cons_succ]))
    refine ord_eB rfl fun K hK => ?_
    go_wp2_with (at_builtin; refine wpList_append_sl (m := k) (B := w.heap.size) (L2 := (l.take k).flatMap Node.list) rfl _ _ _ rfl Tryz.nodeT rfl (World.ownsRow_nil w.drew w.heap.size _ _) rfl HPRE.out (node_one _) (by unfold maxLen; omega) (by omega) (Nat.le_refl _) ?_; intro A4 c4 w4 ho4 hg4 hat4; simp only [Nat.zero_add, List.nil_append] at ho4 ⊢)
    have hG1 := grown_trans hG0 (hg4)
    refine hK.out _ _ hG1 ?_
    clear hK K
    repeat (first
      | (refine ord_skipB rfl (by rfl) ?_; simp only [Act.put, List.setIfInBounds_toArray, List.set_cons_zero, List.set_cons_succ])
      | (refine ord_qE rfl (by rfl) ?_; apply Exists.intro; refine ⟨fun w' hc' => ?_, ?_⟩; (focus (go_simp; (try go_bits); (try simp only [↓IntWalk.iteOmega]); with_reducible rfl)); simp only [Act.put, List.setIfInBounds_toArray, List.set_cons_zero, List.set_cons_succ]))
    have HS4 := Lib.hid (HSUF.out w4 (below_grown hG1 (Nat.le_refl _) (fun g e => by cases e)))
    refine ord_eB rfl fun K hK => ?_
    go_wp2_with (at_builtin; refine wpList_append_sl (m := 0) (c2 := 0) (L2 := (l.drop (k + 1)).flatMap Node.list) rfl _ _ _ rfl Tryz.nodeT rfl ho4 rfl HS4.out (node_one _) (by unfold maxLen; omega) (by omega) hG1.size ?_; intro A5 c5 w5 ho5 hg5 hat5)
    have hG2 := grown_own hG1 hg5 (fun g e => (hat4 g e).imp (fun h => by cases h) (fun h => h))
    refine hK.out _ _ hG2 ?_
    clear hK K
    repeat (first
      | (refine ord_skipB rfl (by rfl) ?_; simp only [Act.put, List.setIfInBounds_toArray, List.set_cons_zero, List.set_cons_succ])
      | (refine ord_qE rfl (by rfl) ?_; apply Exists.intro; refine ⟨fun w' hc' => ?_, ?_⟩; (focus (go_simp; (try go_bits); (try simp only [↓IntWalk.iteOmega]); with_reducible rfl)); simp only [Act.put, List.setIfInBounds_toArray, List.set_cons_zero, List.set_cons_succ]))
    refine ord_end ?_
    have HL := Lib.hid (show (l.take k ++ l.drop (k + 1)).flatMap Node.list = (l.take k).flatMap Node.list ++ (l.drop (k + 1)).flatMap Node.list by simp)
    have Hm := Lib.hid (show k + 0 = l.length - 1 by omega)
    go_wp2
    go_ret
    refine ⟨A5, c5, by rw [← Hm.out]; rfl, ?_, below_grown hG2 (Nat.le_refl _) (fun g e => by cases e)⟩
    rw [HL.out, ← Hm.out]
    exact ho5
/-- What made says. -/
def RMadeRes (t : TV) (ds : List ByteArray) (w : World) (e : Ending) (w' : World) : Prop :=
  Below w.heap.size w w' ∧ ∃ (u : TV) (E : Int), e = .returned (.tuple #[u.val, .int .i64 E]) ∧
    ((E = 31 ∧ u = ⟨[], [], none, 0, 0, none, 0, 0⟩ ∧ (boundB t = true ∨ ((∃ x ∈ t.nodes, badFile t.fn x = true) ∨ ∃ (S : List Node) (v : TV) (w2 : World), Canoned t.nodes (treeF t ds) w.heap.size w2 S v ∧ formB v = false))) ∨
     (E = 0 ∧ boundB t = false ∧ (∀ x ∈ t.nodes, badFile t.fn x = false) ∧ ∃ S, Canoned t.nodes (treeF t ds) w.heap.size w' S u ∧ formB u = true))
theorem Canoned.low {l : List Node} {F : Int → Int × ByteArray} {base base' : Nat} {w' : World} {S : List Node} {u : TV} (h : Canoned l F base w' S u) (hb : base' ≤ base) : Canoned l F base' w' S u :=
  { h with own := own_low h.own hb, ownF := own_low h.ownF hb, rows := ⟨fun k f d hf hd => ⟨(h.rows.row k f d hf hd).1, own_low (h.rows.row k f d hf hd).2 hb⟩, h.rows.apart, h.rows.low⟩ }
set_option maxRecDepth 100000 in
set_option maxHeartbeats 4000000 in
theorem rmade_any (t : TV) (ds : List ByteArray) (w : World) (h : TreeD w t ds) :
    Calls Tryz.prog 47 #[.slice t.NA t.nn t.nc, .slice t.FA t.fn t.fc] w (RMadeRes t ds w) := by
  have hc := fun W (H : TreeD W t ds) => rcanon_any t ds W H
  have HD := Lib.hid h
  unfold RMadeRes
  obtain ⟨nodes, files, NA, nn, nc, FA, fn, fc⟩ := t
  unfold TV.val at hc
  simp only at hc ⊢
  have HC := Lib.hid hc
  clear hc h
  have hR := Blk.new w 25 #[.slice none 0 0, .slice none 0 0]
  have hb := (Below.refl w.heap.size w).alloc (Nat.le_refl _) (.cells #[.slice none 0 0, .slice none 0 0] 25)
  go_enter Tryz.func47, Tryz.ntmps47
  go_upto_region 2 with (go_at_call 65; refine (HC.out _ (HD.out.keep hb)).mono ?_; rintro e w1 ⟨hb1, ⟨unodes, ufiles, uNA, unn, unc, uFA, ufn, ufc⟩, E, rfl, hres⟩; unfold TV.val at *)
  have hR1 := (hR.below hb1 hR.lt).alloc (.cells #[.slice uNA unn unc, .slice uFA ufn ufc] 25)
  have hU := Blk.new w1 25 #[.slice uNA unn unc, .slice uFA ufn ufc]
  have hg1 := World.grownBy_alloc w1 (.cells #[.slice uNA unn unc, .slice uFA ufn ufc] 25) none
  have hb2 := (hb.trans (hb1.mono hb.size)).alloc (hb.trans (hb1.mono hb.size)).size (.cells #[.slice uNA unn unc, .slice uFA ufn ufc] 25)
  obtain ⟨V, hV⟩ : ∃ V, w1.alloc (.cells #[.slice uNA unn unc, .slice uFA ufn ufc] 25) = V := ⟨_, rfl⟩
  obtain ⟨ub, hub⟩ : ∃ ub, w1.heap.size = ub := ⟨_, rfl⟩
  rw [hV] at hR1 hU hb2 hg1 ⊢
  rw [hub] at hU ⊢
  clear hV hR hb
  have hlow : ∀ {S : List Node} {v : TV} {w2 : World}, Canoned nodes (treeF ⟨nodes, files, NA, nn, nc, FA, fn, fc⟩ ds) (w.alloc (.cells #[.slice none 0 0, .slice none 0 0] 25)).heap.size w2 S v → Canoned nodes (treeF ⟨nodes, files, NA, nn, nc, FA, fn, fc⟩ ds) w.heap.size w2 S v := fun h => h.low (by simp)
  rcases hres with ⟨rfl, hbb, _⟩ | ⟨rfl, hbb, _, hbad⟩ | ⟨rfl, hbb, hgood, S, hCn, hfb⟩
  · have Hbb := Lib.hid hbb
    clear hbb hlow
    go_wp2_with (refine wpList_store_blk rfl 25 (.tmp 4) (.tmp 17) rfl hR1 #[.slice none 0 0, .slice none 0 0] rfl rfl (by kernel_rfl) rfl (by simp [Value.oneCell']) ?_; intro w7 hB7 hg7 hs7)
    exact ret_cell_t rfl rfl (load_blk hB7 Tryz.underlying25 rfl (by kernel_rfl)) rfl ⟨hb2.trans (below_grown hg7 hb2.size (fun g e => by injection e with e; omega)), ⟨[], [], none, 0, 0, none, 0, 0⟩, 31, rfl, .inl ⟨rfl, rfl, .inl Hbb.out⟩⟩
  · have hbad2 : (∃ x ∈ nodes, badFile fn x = true) ∨ ∃ (S : List Node) (v : TV) (w2 : World), Canoned nodes (treeF ⟨nodes, files, NA, nn, nc, FA, fn, fc⟩ ds) w.heap.size w2 S v ∧ formB v = false := hbad.imp id fun ⟨S, v, w2, h1, h2⟩ => ⟨S, v, w2, hlow h1, h2⟩
    have Hbad := Lib.hid hbad2
    clear hbb hlow hbad hbad2
    go_wp2_with (refine wpList_store_blk rfl 25 (.tmp 4) (.tmp 17) rfl hR1 #[.slice none 0 0, .slice none 0 0] rfl rfl (by kernel_rfl) rfl (by simp [Value.oneCell']) ?_; intro w7 hB7 hg7 hs7)
    exact ret_cell_t rfl rfl (load_blk hB7 Tryz.underlying25 rfl (by kernel_rfl)) rfl ⟨hb2.trans (below_grown hg7 hb2.size (fun g e => by injection e with e; omega)), ⟨[], [], none, 0, 0, none, 0, 0⟩, 31, rfl, .inl ⟨rfl, rfl, .inr Hbad.out⟩⟩
  · have Hbb := Lib.hid hbb; have Hg := Lib.hid hgood; have Hfb := Lib.hid hfb
    have HC1 := Lib.hid ((hlow hCn).move hg1 (fun _ e => by cases e))
    clear hbb hgood hfb hCn hlow
    have u0 := hU.cell 0; have u1 := hU.cell 1
    go_wp2_with (refine wpList_store_blk rfl 25 (.tmp 4) (.tmp 18) rfl hR1 #[.slice uNA unn unc, .slice uFA ufn ufc] rfl rfl (by kernel_rfl) rfl (by simp [Value.oneCell']) ?_; intro w7 hB7 hg7 hs7)
    exact ret_cell_t rfl rfl (load_blk hB7 Tryz.underlying25 rfl (by kernel_rfl)) rfl ⟨hb2.trans (below_grown hg7 hb2.size (fun g e => by injection e with e; omega)), ⟨unodes, ufiles, uNA, unn, unc, uFA, ufn, ufc⟩, 0, rfl, .inr ⟨rfl, Hbb.out, Hg.out, S, HC1.out.move hg7 (fun rb e => by injection e with e; subst e; exact ⟨_, hR1⟩), Hfb.out⟩⟩
end Go.Proofs.YthmeffpickejkaaGreat

namespace Go.Proofs.YthmeffpickejkaaGreat
open Go.RowKit

/-- A tree of nodes and files is told as a world, if its nodes are the world's, and its files are. -/
structure Agree (t : TV) (ds : List ByteArray) (N : PW) : Prop where
  perm : t.nodes.Perm N.nodes
  next : N.next ≤ t.fn
  F : ∀ x ∈ N.nodes, 0 ≤ x.file → treeF t ds x.file = N.F x.file
theorem canoned_told {t : TV} {ds : List ByteArray} {N : PW} (hA : Agree t ds N) (hI : N.Inv) {base : Nat} {w : World} {S : List Node} {u : TV} (h : Canoned t.nodes (treeF t ds) base w S u) : ToldAs N base w S u := by
  have hp := h.perm.trans hA.perm
  have hF : ∀ i ∈ idsL S, treeF t ds i = N.F i := fun i hi => by
    obtain ⟨h0, x, hx, e⟩ := (idsL_mem S i).1 hi
    rw [← e]; exact hA.F x (hp.mem_iff.1 hx) (by omega)
  have e1 : (idsL S).map (fun i => (treeF t ds i).1) = (idsL S).map (fun i => (N.F i).1) := List.map_congr_left fun i hi => by rw [hF i hi]
  have e2 : (idsL S).map (fun i => (treeF t ds i).2) = (idsL S).map (fun i => (N.F i).2) := List.map_congr_left fun i hi => by rw [hF i hi]
  exact { perm := hp, rises := rises_of_ws h.ws (apart_of_perm hp hI.apart), nodes := h.nodes, nn := h.nn, fn := h.fn, fl := h.fl, modes := h.modes.trans e1, own := h.own, ownF := h.ownF, rows := e2 ▸ h.rows }
theorem form_of_loose {u : TV} (h : LooseP u) : formB u = true := by
  have := loose_of_P h
  rw [looseE_form] at this
  split at this
  · cases this
  · split at this
    · assumption
    · cases this
theorem made_told {t : TV} {ds : List ByteArray} {N : PW} (hA : Agree t ds N) (hI : N.Inv) (hl : N.nodes.length ≤ 256) (hb : boundB t = false) {w : World} {e : Ending} {w' : World} (h : RMadeRes t ds w e w') :
    Below w.heap.size w w' ∧ ∃ (u : TV) (S : List Node), e = .returned (.tuple #[u.val, .int .i64 0]) ∧ ToldAs N w.heap.size w' S u := by
  obtain ⟨hb1, u, E, he, h⟩ := h
  refine ⟨hb1, ?_⟩
  rcases h with ⟨_, _, h | ⟨x, hx, h⟩ | ⟨S, v, w2, h, hf⟩⟩ | ⟨rfl, _, _, S, hC, _⟩
  · rw [hb] at h; cases h
  · exfalso
    have hxN := hA.perm.mem_iff.1 hx
    simp only [badFile, Bool.or_eq_true, decide_eq_true_eq] at h
    rcases hI.kind x hxN with ⟨h1, _⟩ | ⟨h1, _, h2⟩
    · have := hA.next; have := hI.n0; omega
    · obtain ⟨f, hf, e1⟩ := List.mem_map.1 h2
      have := (hI.fbd f hf).2.1
      have := hA.next
      omega
  · have := form_of_loose (told_loose hI hl (canoned_told hA hI h))
    rw [hf] at this; cases this
  · exact ⟨u, S, he, canoned_told hA hI hC⟩
/-- A tree that is too great is refused. -/
theorem made_big {t : TV} {ds : List ByteArray} (hb : boundB t = true) {w : World} {e : Ending} {w' : World} (h : RMadeRes t ds w e w') :
    Below w.heap.size w w' ∧ e = .returned (.tuple #[(⟨[], [], none, 0, 0, none, 0, 0⟩ : TV).val, .int .i64 31]) := by
  obtain ⟨hb1, u, E, he, h⟩ := h
  rcases h with ⟨rfl, rfl, _⟩ | ⟨_, h, _⟩
  · exact ⟨hb1, he⟩
  · rw [hb] at h; cases h
section
variable {t : TV} {ds : List ByteArray}
theorem file_lt {N : PW} (hI : N.Inv) {x : Node} (hx : x ∈ N.nodes) (h0 : 0 ≤ x.file) : x.file < N.next := by
  rcases hI.kind x hx with ⟨h, _⟩ | ⟨_, _, h⟩
  · omega
  · obtain ⟨f, hf, e⟩ := List.mem_map.1 h
    have := (hI.fbd f hf).2.1
    omega
/-- Files as they were. -/
theorem agree_same {t' : TV} {N : PW} (hI : N.Inv) (hp : t'.nodes.Perm N.nodes) (hf : t'.files = t.files) (hn : t'.fn = t.fn) (hN : N.files = (openM t ds).files) (hx : N.next = t.fn) : Agree t' ds N := by
  refine ⟨hp, by rw [hx, hn]; exact Int.le_refl _, fun x hx0 h0 => ?_⟩
  have h1 := file_lt hI hx0 h0
  rw [F_files hN, open_F t ds h0 (by omega)]
  unfold treeF
  rw [hf]
/-- A file without a name goes. -/
theorem agree_take {t' : TV} {N : PW} {j : Int} (hI : N.Inv) (hp : t'.nodes.Perm N.nodes) (hf : t'.files = t.files) (hn : t'.fn = t.fn) (hN : N.files = (openM t ds).files ∨ (N.files = (openM t ds).files.filter (fun f => !decide (f.id = j)) ∧ ∀ x ∈ N.nodes, x.file ≠ j)) (hx : N.next = t.fn) : Agree t' ds N := by
  rcases hN with hN | ⟨hN, hj⟩
  · exact agree_same hI hp hf hn hN hx
  · refine ⟨hp, by rw [hx, hn]; exact Int.le_refl _, fun x hx0 h0 => ?_⟩
    have h1 := file_lt hI hx0 h0
    have e : N.F x.file = (openM t ds).F x.file := by
      unfold PW.F fileOf
      rw [hN, List.find?_filter]
      congr 2
      refine congrArg (fun p => List.find? p _) (funext fun f => ?_)
      by_cases h : f.id = x.file
      · have : f.id ≠ j := by rw [h]; exact hj x hx0
        simp [h, hj x hx0]
      · simp [h]
    rw [e, open_F t ds h0 (by omega)]
    unfold treeF
    rw [hf]
/-- A file more. -/
theorem agree_made {t' : TV} {ds' : List ByteArray} {N : PW} {f : FC} {d : ByteArray} {mode : Int} (hfl : t.files.length = t.fn) (hdl : ds.length = t.fn) (hI : N.Inv) (hp : t'.nodes.Perm N.nodes) (hf : t'.files = t.files ++ [f]) (hfm : f.mode = mode) (hds : ds' = ds ++ [d]) (hn : t'.fn = t.fn + 1) (hN : N.files = (openM t ds).files ++ [⟨(t.fn : Int), mode, d⟩]) (hx : N.next = t.fn + 1) : Agree t' ds' N := by
  refine ⟨hp, by rw [hx, hn]; omega, fun x hx0 h0 => ?_⟩
  have h1 := file_lt hI hx0 h0
  rw [hx] at h1
  obtain ⟨i, hi⟩ := Int.eq_ofNat_of_zero_le h0
  rw [hi] at h1 ⊢
  by_cases hl : i < t.fn
  · have e : N.F (i : Int) = (openM t ds).F (i : Int) := by
      unfold PW.F fileOf
      rw [hN, List.find?_append]
      have : ((⟨(t.fn : Int), mode, d⟩ : PF).id = (i : Int)) = False := by simp; omega
      cases h : List.find? (fun f : PF => decide (f.id = (i : Int))) (openM t ds).files
      · have h9 : ¬ (t.fn : Int) = (i : Int) := by omega
        simp [h9]
      · rfl
    rw [e, open_F t ds (by omega) (by omega)]
    unfold treeF
    rw [hf, hds, Int.toNat_natCast, List.getElem?_append_left (by omega), List.getElem?_append_left (by omega)]
  · obtain rfl : i = t.fn := by omega
    have e : N.F (t.fn : Int) = (mode, d) := by
      unfold PW.F fileOf
      rw [hN, List.find?_append]
      have : List.find? (fun f : PF => decide (f.id = (t.fn : Int))) (openM t ds).files = none := by
        rw [List.find?_eq_none]
        intro y hy
        have : y ∈ filesP t ds t.fn := hy
        unfold filesP at this
        obtain ⟨k, hk, rfl⟩ := List.mem_map.1 this
        have := List.mem_range.1 hk
        simp; omega
      rw [this]; simp
    rw [e]
    unfold treeF
    rw [hf, hds, Int.toNat_natCast, ← hfl, List.getElem?_append_right (Nat.le_refl _), List.getElem?_append_right (by omega), hdl, hfl, Nat.sub_self]
    simp [hfm]
/-- A file's mode turned. -/
theorem agree_chmod {t' : TV} {N : PW} {k : Nat} {f : FC} {mode : Int} (hk : t.files[k]? = some f) (hfl : t.files.length = t.fn) (hI : N.Inv) (hp : t'.nodes.Perm N.nodes) (hf : t'.files = t.files.set k ⟨mode, f.A, f.n, f.c⟩) (hn : t'.fn = t.fn) (hN : N.files = chmodF (openM t ds).files (k : Int) mode) (hx : N.next = t.fn) : Agree t' ds N := by
  refine ⟨hp, by rw [hx, hn]; exact Int.le_refl _, fun x hx0 h0 => ?_⟩
  have h1 := file_lt hI hx0 h0
  rw [hx] at h1
  obtain ⟨i, hi⟩ := Int.eq_ofNat_of_zero_le h0
  rw [hi] at h1 ⊢
  have e0 := open_F t ds (i := (i : Int)) (by omega) (by omega)
  have e : N.F (i : Int) = if i = k then (mode, ((openM t ds).F (i : Int)).2) else (openM t ds).F (i : Int) := by
    unfold PW.F fileOf
    rw [hN]
    unfold chmodF
    rw [List.find?_map]
    have hc : ((fun f : PF => decide (f.id = (i : Int))) ∘ fun f : PF => if f.id = (k : Int) then { f with mode := mode } else f) = fun f : PF => decide (f.id = (i : Int)) := by
      funext f
      simp only [Function.comp]
      split <;> rfl
    rw [hc]
    have hmem : ∃ g, List.find? (fun f : PF => decide (f.id = (i : Int))) (openM t ds).files = some g := by
      cases h : List.find? (fun f : PF => decide (f.id = (i : Int))) (openM t ds).files with
      | some g => exact ⟨g, rfl⟩
      | none =>
        exfalso
        rw [List.find?_eq_none] at h
        have : (⟨(i : Int), (treeF t ds i).1, (treeF t ds i).2⟩ : PF) ∈ (openM t ds).files := by
          show _ ∈ filesP t ds t.fn
          unfold filesP
          exact List.mem_map.2 ⟨i, List.mem_range.2 (by omega), rfl⟩
        exact h _ this (by simp)
    obtain ⟨g, hg⟩ := hmem
    have hgi : g.id = (i : Int) := by simpa using List.find?_some hg
    rw [hg]
    by_cases h : i = k
    · subst h; simp [hgi]
    · simp only [Option.map_some, Option.getD_some, hgi, if_neg h, if_neg (show ¬ ((i : Int) = (k : Int)) by omega)]
  rw [e, e0]
  unfold treeF
  rw [hf, Int.toNat_natCast, List.getElem?_set]
  by_cases h : i = k
  · subst h
    rw [if_pos rfl, if_pos (by omega), if_pos rfl]; rfl
  · rw [if_neg (fun h2 => h h2.symm), if_neg h]
end
end Go.Proofs.YthmeffpickejkaaGreat
