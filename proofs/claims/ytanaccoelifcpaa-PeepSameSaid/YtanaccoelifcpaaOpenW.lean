/- model.open: a loose tree as a world. -/
import Derived.Test.YtanaccoelifcpaaPlaces
namespace Go.Proofs.Ytanaccoelifcpaa
open Go.RowKit

def filesP (t : TV) (ds : List ByteArray) (j : Nat) : List PF := (List.range j).map fun (i : Nat) => ⟨(i : Int), (treeF t ds i).1, (treeF t ds i).2⟩
theorem filesP_succ (t : TV) (ds : List ByteArray) (j : Nat) : filesP t ds (j + 1) = filesP t ds j ++ [⟨(j : Int), (treeF t ds j).1, (treeF t ds j).2⟩] := by simp [filesP, List.range_succ]
theorem filesP_ids (t : TV) (ds : List ByteArray) (j : Nat) : (filesP t ds j).map (·.id) = (List.range j).map fun (i : Nat) => (i : Int) := by simp [filesP, Function.comp_def]
/-- The world of a tree. -/
def openM (t : TV) (ds : List ByteArray) : PW := ⟨t.nodes, filesP t ds t.fn, t.fn⟩
def OpenRes (t : TV) (ds : List ByteArray) (w : World) (e : Ending) (w' : World) : Prop := ∃ wb, e = .returned (.tuple #[.pointer (some ⟨wb, 0, none⟩), .int .i64 0]) ∧ WorldAt w.heap.size w' wb (openM t ds) 256 ∧ Below w.heap.size w w'
theorem open_no (t : TV) (w : World) (h : TreeAt w t) (hl : looseE t ≠ 0) : Calls Try.prog 19 #[t.val] w fun e w' => e = .returned (.tuple #[.pointer none, .int .i64 (looseE t)]) ∧ Below w.heap.size w w' := by
  obtain ⟨E, hE⟩ : ∃ E, looseE t = E := ⟨_, rfl⟩
  have hK := fun w h => loose_any t w h
  rw [hE] at hK hl ⊢
  obtain ⟨e1, e2⟩ := (And.intro (beq_eq_false_iff_ne.2 hl) (bne_iff_ne.2 hl) : (E == 0) = false ∧ (E != 0) = true)
  have HK := Lib.hid hK; have HL := Lib.hid hl; clear hK hl hE
  have hT := h.keep ((Below.refl w.heap.size w).alloc (Nat.le_refl _) (.cells #[.slice t.NA t.nn t.nc, .slice t.FA t.fn t.fc] 25))
  have HT := Lib.hid hT; clear hT h
  have hB := Blk.new w 25 #[.slice t.NA t.nn t.nc, .slice t.FA t.fn t.fc]
  have hb := (Below.refl w.heap.size w).alloc (Nat.le_refl _) (.cells #[.slice t.NA t.nn t.nc, .slice t.FA t.fn t.fc] 25)
  have b0 := hB.cell 0
  have b1 := hB.cell 1
  unfold TV.val at HK ⊢
  go_enter Try.func19, Try.ntmps19
  go_wp2_with (go_at_call 38; refine (HK.out _ HT.out).mono ?_; rintro e w1 ⟨rfl, hb1⟩)
  go_ret2
  exact ⟨rfl, hb.trans (hb1.mono (by simp))⟩
theorem dup_id {t : TV} {ds : List ByteArray} {j : Nat} : (j : Int) ∉ (filesP t ds j).map (·.id) := by
  rw [filesP_ids]
  simp
  intro x hx e
  omega
theorem treeF_at {t : TV} {ds : List ByteArray} {j : Nat} {x : FC} {d : ByteArray} (hx : t.files[j]? = some x) (hd : ds[j]? = some d) : treeF t ds (j : Int) = (x.mode, d) := by
  simp [treeF, hx, hd]
set_option maxRecDepth 100000 in
set_option maxHeartbeats 4000000 in
theorem open_any (t : TV) (ds : List ByteArray) (w : World) (h : TreeD w t ds) (hl : looseE t = 0) : Calls Try.prog 19 #[t.val] w (OpenRes t ds w) := by
  have hG := (looseP_of hl).good
  have hnn := hG.nn
  have hfn := hG.fn
  have hnl := h.tree.nl
  have hfl := h.tree.fl
  have hns := h.tree.ns
  have hfs := h.tree.fs
  have hds := h.dat
  have HG := Lib.hid hG; clear hG
  have hK := fun w h => loose_any t w h
  rw [hl] at hK
  obtain ⟨T, hT⟩ : ∃ T, t = T := ⟨_, rfl⟩
  have HT := Lib.hid h.tree; clear h
  obtain ⟨nodes, files, NA, nn, nc, FA, fn, fc⟩ := t
  simp only at hnn hfn hnl hfl hns hfs hds
  have HK := Lib.hid hK; clear hK hl
  have Hnl := Lib.hid hnl; have Hfl := Lib.hid hfl; have Hns := Lib.hid hns; have Hfs := Lib.hid hfs; have Hds := Lib.hid hds
  clear hnl hfl hns hfs hds
  have hTA := HT.out.keep ((Below.refl w.heap.size w).alloc (Nat.le_refl _) (.cells #[.slice NA nn nc, .slice FA fn fc] 25))
  have HTA := Lib.hid hTA; clear hTA
  have hB := Blk.new w 25 #[.slice NA nn nc, .slice FA fn fc]
  have hb := (Below.refl w.heap.size w).alloc (Nat.le_refl _) (.cells #[.slice NA nn nc, .slice FA fn fc] 25)
  have b0 := hB.cell 0
  have b1 := hB.cell 1
  unfold TV.val at HK ⊢
  have hmm := @run_makeMap Try.prog
  go_enter Try.func19, Try.ntmps19
  go_upto_region 4 with (go_at_call 38; refine (HK.out _ HTA.out).mono ?_; rintro e w1 ⟨rfl, hb1⟩)
  replace hB := hB.below hb1 hB.lt
  replace hb := hb.trans (hb1.mono (by simp))
  have hs1 := hb1.size
  rw [World.size_alloc] at hs1
  clear b0 b1 hb1
  have b0 := hB.cell 0
  have b1 := hB.cell 1
  have hB3 := ((hB.alloc (.map #[] 0)).alloc (.map #[] 0)).alloc (.map #[] 0)
  have d1 := hB3.cell 1
  have d2 := (hB3.alloc (.cells #[.map (some w1.heap.size), .map (some (w1.heap.size + 1)), .map (some (w1.heap.size + 1 + 1)), .int .i64 fn] 71)).cell 1
  go_upto_region 5 with (fail)
  have hM : WorldAt w.heap.size ((((w1.alloc (.map #[] 0)).alloc (.map #[] 0)).alloc (.map #[] 0)).alloc (.cells #[.map (some w1.heap.size), .map (some (w1.heap.size + 1)), .map (some (w1.heap.size + 1 + 1)), .int .i64 fn] 71)) (w1.heap.size + 3) ⟨[], filesP T ds 0, fn⟩ 0 := by
    refine ⟨w1.heap.size, w1.heap.size + 1, w1.heap.size + 1 + 1, [], [], ⟨?_, ?_, ?_, ?_, List.Pairwise.nil, fun m h => by simp at h, fun m h => by simp at h, fun m h => by simp at h, by omega, by omega⟩, ⟨rfl, fun m h => by simp at h, fun p => by simp [getV, kidsC], Nat.le_refl _⟩⟩
    · have := Blk.new (((w1.alloc (.map #[] 0)).alloc (.map #[] 0)).alloc (.map #[] 0)) 71 #[.map (some w1.heap.size), .map (some (w1.heap.size + 1)), .map (some (w1.heap.size + 1 + 1)), .int .i64 fn]
      simpa using this
    · exact (((MapV.new w1).kept (World.grownBy_alloc _ _ none) (by simp)).kept (World.grownBy_alloc _ _ none) (by simp)).kept (World.grownBy_alloc _ _ none) (by simp)
    · have := (((MapV.new (T := intK) (w1.alloc (.map #[] 0))).kept (World.grownBy_alloc _ (.map #[] 0) none) (by simp)).kept (World.grownBy_alloc _ (.cells #[.map (some w1.heap.size), .map (some (w1.heap.size + 1)), .map (some (w1.heap.size + 1 + 1)), .int .i64 fn] 71) none) (by simp))
      simpa [msE] using this
    · have := (MapV.new (T := strK) ((w1.alloc (.map #[] 0)).alloc (.map #[] 0))).kept (World.grownBy_alloc _ (.cells #[.map (some w1.heap.size), .map (some (w1.heap.size + 1)), .map (some (w1.heap.size + 1 + 1)), .int .i64 fn] 71) none) (by simp)
      simpa using this
  replace hB := hB3.alloc (.cells #[.map (some w1.heap.size), .map (some (w1.heap.size + 1)), .map (some (w1.heap.size + 1 + 1)), .int .i64 fn] 71)
  obtain ⟨W, hW⟩ : ∃ W, W = ((((w1.alloc (.map #[] 0)).alloc (.map #[] 0)).alloc (.map #[] 0)).alloc (.cells #[.map (some w1.heap.size), .map (some (w1.heap.size + 1)), .map (some (w1.heap.size + 1 + 1)), .int .i64 fn] 71)) := ⟨_, rfl⟩
  have hb4 : Below w1.heap.size w1 W := by rw [hW]; exact ((((Below.refl _ w1).alloc (Nat.le_refl _) _).alloc (by simp) _).alloc (by simp; omega) _).alloc (by simp; omega) _
  rw [← hW] at hM hB ⊢
  have hWs : w1.heap.size + 3 < W.heap.size := by rw [hW]; simp
  clear b0 b1 d1 d2 hB3 hmm
  obtain ⟨wb, hwb⟩ : ∃ wb, wb = w1.heap.size + 3 := ⟨_, rfl⟩
  rw [show w1.heap.size + 1 + 1 + 1 = w1.heap.size + 3 by omega, ← hwb]
  rw [← hwb] at hM
  clear hW hwb
  have hb5 := hb.trans (hb4.mono (by omega))
  have HM := Lib.hid hM; clear hM
  have h0 : w.heap.size ≤ W.heap.size := by omega
  have b1 := hB.cell 1
  have b0 := hB.cell 0
  go_wp2
  go_loopw [26] (fun i wr => ∃ j : Nat, j ≤ fn ∧ i = .int .i64 j ∧ WorldAt w.heap.size wr wb ⟨[], filesP T ds j, fn⟩ 0 ∧ Blk wr w.heap.size 25 #[.slice NA nn nc, .slice FA fn fc] ∧ Below w.heap.size w wr) (fun i _ => fn - (intOf i).toNat)
  case atStart => exact ⟨0, Nat.zero_le _, rfl, HM.out, hB, hb5⟩
  case round =>
    clear HM hB hb5 b0 b1 hb4 hb
    obtain ⟨j, hj, rfl, hM, hB, hb⟩ := hrel
    have HM := Lib.hid hM; clear hM
    by_cases hlt : j < fn
    · have hki : (j : Int) < fn := by omega
      obtain ⟨b, o, x, rfl, hbl, hx, hc⟩ := (Hfs.out.below hb (Nat.le_refl _)).get FC.len Hfl.out hlt
      obtain ⟨d, hd, hdz, hdS⟩ := Hds.out.get hx
      have c0 := hc 0 _ rfl
      have c1 := hc 1 _ rfl
      simp only [Nat.add_zero] at c0 c1
      have hTF : treeF T ds (j : Int) = (x.mode, d) := by rw [← hT]; exact treeF_at hx hd
      have HTF := Lib.hid hTF; have Hdz := Lib.hid hdz; have HdS := Lib.hid hdS
      clear hc hx hd hTF hdz hdS
      have hsB := hb.size
      go_upto_region 8 with (fail)
      have hX := Blk.new wr 49 #[.int .i64 x.mode, .slice x.A x.n x.c]
      have HM1 := Lib.hid (HM.out.keep (World.grownBy_alloc wr (.cells #[.int .i64 x.mode, .slice x.A x.n x.c] 49) none))
      have hF1 := Fr.alloc (.cells #[.int .i64 x.mode, .slice x.A x.n x.c] 49) HM.out.size
      replace hB := hB.alloc (.cells #[.int .i64 x.mode, .slice x.A x.n x.c] 49)
      obtain ⟨W1, hW1⟩ : ∃ W1, W1 = wr.alloc (.cells #[.int .i64 x.mode, .slice x.A x.n x.c] 49) := ⟨_, rfl⟩
      rw [← hW1] at hX HM1 hF1 hB ⊢
      clear hW1 c0 c1
      obtain ⟨nb, fb, kb, ms, kl, hW, hO⟩ := HM1.out
      have m1 := hW.blk.cell 1
      have x0 := hX.cell 0
      have x1 := hX.cell 1
      have hwl := hW.blk.lt
      have hxl := hX.lt
      have hmf : ms.map MF.pf = filesP T ds j := hO.mfs
      have hid2 : (j : Int) ∉ ms.map (·.id) := by
        have e : ms.map (·.id) = (filesP T ds j).map (·.id) := by rw [← hmf, List.map_map]; rfl
        rw [e]; exact dup_id
      have hml : ms.length ≤ 256 := by
        have e : ms.length = (filesP T ds j).length := by rw [← hmf]; simp
        rw [e]; simp [filesP]; omega
      have Hid2 := Lib.hid hid2; have HO := Lib.hid hO; clear hid2 hO hmf
      refine wp_region_ordG (none) [(0, true), (1, true), (2, true), (3, true), (4, true), (5, true), (6, true), (7, true), (8, true), (9, true), (10, false)] 11 (by kernel_rfl) (by kernel_rfl) fun hG0 => ?_
      repeat (first
        | (refine ord_skipB rfl (by rfl) ?_; simp only [Act.put, List.setIfInBounds_toArray, List.set_cons_zero, List.set_cons_succ])
        | (refine ord_qE rfl (by rfl) ?_; apply Exists.intro; refine ⟨fun w' hc' => ?_, ?_⟩; (focus (go_simp; (try go_bits); (try simp only [↓IntWalk.iteOmega]); with_reducible rfl)); simp only [Act.put, List.setIfInBounds_toArray, List.set_cons_zero, List.set_cons_succ]))
      refine ord_eB rfl fun K hK => ?_
      go_wp2_with (fail)
      have hG1 := grown_trans hG0 (World.grownBy_alloc W1.drew (.cells #[.int .i64 x.mode, .int .i64 0, .slice x.A x.n x.c] 79) none)
      refine hK.out _ _ hG1 ?_
      clear hK K
      repeat (first
        | (refine ord_skipB rfl (by rfl) ?_; simp only [Act.put, List.setIfInBounds_toArray, List.set_cons_zero, List.set_cons_succ])
        | (refine ord_qE rfl (by rfl) ?_; apply Exists.intro; refine ⟨fun w' hc' => ?_, ?_⟩; (focus (go_simp; (try go_bits); (try simp only [↓IntWalk.iteOmega]); with_reducible rfl)); simp only [Act.put, List.setIfInBounds_toArray, List.set_cons_zero, List.set_cons_succ]))
      have hM1 := hW.keep hG1
      refine ord_tail rfl fun K hK => ?_
      go_wp2_with (refine wpList_mv_put rfl Try.mtFiles _ _ _ (.inl rfl) rfl hM1.files (T := intK) (q := (j : Int)) rfl (wf_i64 (by omega) (by omega)) rfl (by simp [msE]; unfold maxLen; omega) ?_; intro w2 hm2 hg2 hs2)
      refine hK.out _ _ ?_
      clear hK K
      obtain ⟨W2, hW2⟩ : ∃ W2, W2 = (W1.alloc (.cells #[.int .i64 x.mode, .int .i64 0, .slice x.A x.n x.c] 79)).drew := ⟨_, rfl⟩
      have hM2 : WMem w.heap.size W2 wb nb fb kb (nodesE []) ms kl fn := by rw [hW2]; exact hM1
      have hnw : Blk W2 W1.heap.size 79 #[.int .i64 x.mode, .int .i64 0, .slice x.A x.n x.c] := by rw [hW2]; exact Blk.new W1 _ _
      replace hg2 : W2.grownBy w2 (some fb) := by rw [hW2]; exact hg2
      have hF2 : Fr w.heap.size W1 W2 := by rw [hW2]; exact (Fr.alloc _ HM1.out.size).trans (Fr.of_none (grown_drew _ none) (by simp; have := HM1.out.size; omega))
      have hBs := HM1.out.size
      clear hW2 hM1 hG0 hG1
      have hM3 := hM2.set_files (ms' := ms ++ [⟨(j : Int), x.mode, 0, d, W1.heap.size, x.A, x.n, x.c⟩]) hg2 (by rw [← msE_put Hid2.out]; exact hm2)
        (by
          rw [List.pairwise_append]
          refine ⟨hW.gs, List.pairwise_singleton _ _, fun y hy z hz e => ?_⟩
          rw [List.mem_singleton.1 hz] at e
          have := (hW.fblk y hy).lt
          simp only at e
          omega)
        (fun m hm => by
          rcases List.mem_append.1 hm with hm | hm
          · exact ⟨hM2.fblk m hm, hM2.fdat m hm, hM2.fnew m hm⟩
          · rw [List.mem_singleton.1 hm]
            exact ⟨hnw, ⟨Hdz.out, HdS.out.below ((hb.trans hF1.below).trans hF2.below) (Nat.le_refl _)⟩, hBs⟩)
      have hF3 := (hF1.trans hF2).trans (Fr.of_map hg2 hM2.files hM2.new.2.2.1 hM2.size)
      have hB3 := (hF2.trans (Fr.of_map hg2 hM2.files hM2.new.2.2.1 hM2.size)).blk hB (by decide) (by decide)
      have hWA : WorldAt w.heap.size w2 wb ⟨[], filesP T ds (j + 1), fn⟩ 0 := by
        refine ⟨nb, fb, kb, _, kl, hM3, ⟨?_, fun m hm => ?_, HO.out.kid, HO.out.kmax⟩⟩
        · have hmf : ms.map MF.pf = filesP T ds j := HO.out.mfs
          rw [List.map_append, hmf]
          show _ = filesP T ds (j + 1)
          rw [filesP_succ, HTF.out]
          rfl
        · rcases List.mem_append.1 hm with hm | hm
          · exact HO.out.cnt m hm
          · rw [List.mem_singleton.1 hm]; rfl
      have HWA := Lib.hid hWA
      clear hWA hM3 hM2 hnw hg2 hm2 hs2 hW m1 x0 x1 hX
      go_wp2
      go_roundw
      case rel => exact ⟨j + 1, by omega, by go_num, HWA.out, hB3, hb.trans hF3.below⟩
      case measure => simp [intOf]; omega
    · obtain rfl : j = fn := by omega
      have b0 := hB.cell 0
      have hsB := hb.size
      have hwl := hB.lt
      go_wp2
      go_loopw [46] (fun i wr => ∃ k : Nat, k ≤ nn ∧ i = .int .i64 k ∧ WorldAt w.heap.size wr wb ⟨nodes.take k, filesP T ds j, j⟩ k ∧ Below w.heap.size w wr) (fun i _ => nn - (intOf i).toNat)
      case atStart => exact ⟨0, Nat.zero_le _, rfl, HM.out, hb⟩
      case round =>
        clear HM hB hb b0 hsB hwl
        obtain ⟨k, hk, rfl, hM, hb⟩ := hrel
        have HM := Lib.hid hM; clear hM
        by_cases hlt : k < nn
        · have hki : (k : Int) < nn := by omega
          obtain ⟨b, o, x, rfl, hbl, hx, hc⟩ := (Hns.out.below hb (Nat.le_refl _)).get Node.len Hnl.out hlt
          have c0 := hc 0 _ rfl
          have c1 := hc 1 _ rfl
          have c2 := hc 2 _ rfl
          simp only [Nat.add_zero] at c0 c1 c2
          have hts := take_snoc' hx
          have hR := HG.out.rises
          have hkd := HG.out.kind x (List.mem_of_getElem? hx)
          simp only at hR hkd
          have hnp : x.path ∉ (nodes.take k).map (·.path) := by
            intro hm
            obtain ⟨y, hy, e⟩ := List.mem_map.1 hm
            obtain ⟨i, hi⟩ := List.getElem?_of_mem hy
            rw [List.getElem?_take] at hi
            split at hi
            · have := rises_get hR hi hx (by rw [pathL, e])
              omega
            · cases hi
          have hfi : x.file < 0 ∨ x.file ∈ (filesP T ds j).map (·.id) := by
            rcases hkd with h1 | h1
            · exact .inl (by omega)
            · refine .inr ?_
              rw [filesP_ids]
              exact List.mem_map.2 ⟨x.file.toNat, List.mem_range.2 (by omega), by omega⟩
          have hfr : -9223372036854775808 ≤ x.file ∧ x.file ≤ 9223372036854775807 := by rcases hkd with h1 | h1 <;> omega
          have Hts := Lib.hid hts; have Hnp := Lib.hid hnp; have Hfi := Lib.hid hfi; have Hfr := Lib.hid hfr
          clear hts hnp hfi hfr hkd hR hc hx
          have hsB := hb.size
          go_upto_region 13 with (fail)
          have hX := Blk.new wr 46 #[.string x.path, .int .i64 x.file, .int .i64 x.mode]
          have HM1 := Lib.hid (HM.out.keep (World.grownBy_alloc wr (.cells #[.string x.path, .int .i64 x.file, .int .i64 x.mode] 46) none))
          have hb1 := hb.alloc hsB (.cells #[.string x.path, .int .i64 x.file, .int .i64 x.mode] 46)
          have x0 := hX.cell 0
          have x1 := hX.cell 1
          have x2 := hX.cell 2
          have hlen : (nodes.take k).length ≤ 1000000 := by rw [List.length_take]; omega
          go_wp2_with (go_at_call 39; refine (put_any w.heap.size wb ⟨nodes.take k, filesP T ds j, j⟩ k x _ HM1.out Hnp.out (fun f hf => by obtain ⟨i, _, rfl⟩ := List.mem_map.1 hf; exact Int.natCast_nonneg i) Hfi.out Hfr.out (by omega) hlen).mono ?_; rintro e w2 ⟨⟨v, rfl⟩, hw2, hf2⟩)
          go_roundw
          case rel => exact ⟨k + 1, by omega, by go_num, by rw [Hts.out]; exact hw2, hb1.trans hf2.below⟩
          case measure => simp [intOf]; omega
        · obtain rfl : k = nn := by omega
          have hfin : nodes.take k = nodes := List.take_of_length_le (by rw [Hnl.out]; exact Nat.le_refl _)
          have hM := HM.out
          rw [hfin] at hM
          clear hfin
          have HM2 := Lib.hid hM; clear hM
          go_wp2
          go_ret2
          refine ⟨wb, rfl, ?_, hb⟩
          show WorldAt _ _ _ ⟨nodes, filesP _ ds j, j⟩ 256
          rw [hT]
          exact HM2.out.mono hnn
end Go.Proofs.Ytanaccoelifcpaa
