/- model.put: a node is put at a path. -/
import Derived.Test.YthmeffpickejkaaWorld
import Derived.Test.YthmeffpickejkaaParent
namespace Go.Proofs.Ythmeffpickejkaa
open Go.RowKit

def PW.put (M : PW) (x : Node) : PW := { M with nodes := M.nodes ++ [x] }
theorem Try.mtNodes : MT 98 9 108 (.agg #[.int .i64 0, .int .i64 0]) := ⟨Try.underlying98, fun w => by kernel_rfl⟩
theorem Try.mtKids : MT 100 9 3 (.int .i64 0) := ⟨Try.underlying100, fun w => by kernel_rfl⟩
theorem Try.mtFiles : MT 99 3 103 (.pointer none) := ⟨Try.underlying99, fun w => by kernel_rfl⟩
theorem namesC_snoc (l : List Node) (x : Node) (i : Int) : namesC (l ++ [x]) i = namesC l i + if x.file = i then 1 else 0 := by
  simp only [namesC, List.countP_append, List.countP_singleton, decide_eq_true_eq]
theorem kidsC_snoc (l : List Node) (x : Node) (p : ByteArray) : kidsC (l ++ [x]) p = kidsC l p + if parentB x.path = p then 1 else 0 := by
  simp only [kidsC, List.countP_append, List.countP_singleton, decide_eq_true_eq]
theorem kidsC_le (l : List Node) (p : ByteArray) : kidsC l p ≤ l.length := List.countP_le_length
theorem namesC_le (l : List Node) (i : Int) : namesC l i ≤ l.length := List.countP_le_length
theorem putV_len {α : Type} [DecidableEq α] (es : List (α × Value)) (a : α) (v : Value) : (putV es a v).length ≤ es.length + 1 := by unfold putV; split <;> simp
theorem nodesE_put {l : List Node} {x : Node} (h : x.path ∉ l.map (·.path)) : putV (nodesE l) x.path (nodeV x.file x.mode) = nodesE (l ++ [x]) := by
  unfold putV
  rw [nodesE_keys, if_neg h]
  simp [nodesE, Node.ent]
theorem mf_of_pf {M : PW} {s : Nat} {ms : List MF} {kl : List (ByteArray × Value)} (h : WOk M s ms kl) {i : Int} (hi : i ∈ M.files.map (·.id)) : ∃ m, mfAt ms i = some m ∧ m ∈ ms ∧ m.id = i := by
  rw [← h.mfs] at hi
  simp only [List.map_map, List.mem_map, Function.comp, MF.pf] at hi
  obtain ⟨m, hm, e⟩ := hi
  cases hq : mfAt ms i with
  | none => simp only [mfAt, List.find?_eq_none, decide_eq_true_eq] at hq; exact absurd e (hq m hm)
  | some m' => exact ⟨m', rfl, mfAt_some hq⟩
theorem pf_of_mf {M : PW} {s : Nat} {ms : List MF} {kl : List (ByteArray × Value)} (h : WOk M s ms kl) {m : MF} (hm : m ∈ ms) : ∃ f ∈ M.files, f.id = m.id := by
  rw [← h.mfs]
  exact ⟨m.pf, List.mem_map.2 ⟨m, hm, rfl⟩, rfl⟩
theorem setMF_pf (ms : List MF) (g : Nat) (f : MF → MF) (hf : ∀ m, (f m).pf = m.pf) : (setMF ms g f).map MF.pf = ms.map MF.pf := by
  simp only [setMF, List.map_map]
  refine List.map_congr_left fun m _ => ?_
  simp only [Function.comp]
  split
  · exact hf m
  · rfl
theorem wf_i64 {v : Int} (h1 : -9223372036854775808 ≤ v) (h2 : v ≤ 9223372036854775807) : (Lit.int .i64 v).wf = true := by
  have e1 : IntKind.i64.min = -9223372036854775808 := by decide
  have e2 : IntKind.i64.max = 9223372036854775807 := by decide
  simp only [Lit.wf, e1, e2, Bool.and_eq_true, decide_eq_true_eq]
  exact ⟨h1, h2⟩
/-- Files are told apart by number and by block. -/
theorem WMem.one {B0 wb nb fb kb : Nat} {w : World} {ns kl : List (ByteArray × Value)} {ms : List MF} {next : Int} (h : WMem B0 w wb nb fb kb ns ms kl next) {m m' : MF} (hm : m ∈ ms) (hm' : m' ∈ ms) (e : m.id = m'.id) : m = m' := by
  have hn : ((ms).map (·.id)).Nodup := by have := h.files.1; rwa [msE_keys] at this
  rcases List.mem_iff_getElem.1 hm with ⟨a, ha, rfl⟩
  rcases List.mem_iff_getElem.1 hm' with ⟨b, hb, rfl⟩
  have := (List.getElem_inj (h₀ := by simpa using ha) (h₁ := by simpa using hb) hn).1 (by simpa using e)
  subst this
  rfl
def upCnt (m : MF) : MF := { m with cnt := m.cnt + 1 }
theorem wok_put {M : PW} {s : Nat} {ms : List MF} {kl : List (ByteArray × Value)} (h : WOk M s ms kl) (x : Node) (hk : (keysV kl).Nodup) (v : Int) (hv : v = kidsC M.nodes (parentB x.path) + 1) (ms' : List MF) (hpf : ms'.map MF.pf = ms.map MF.pf) (hc : ∀ m ∈ ms', m.cnt = namesC M.nodes m.id + if x.file = m.id then 1 else 0) :
    WOk (M.put x) (s + 1) ms' (putV kl (parentB x.path) (.int .i64 v)) := by
  refine ⟨by rw [hpf]; exact h.mfs, fun m hm => ?_, fun p => ?_, ?_⟩
  · rw [hc m hm]
    simp only [PW.put, namesC_snoc]
    split <;> simp
  · rw [putV_get hk]
    simp only [PW.put, kidsC_snoc]
    by_cases e : p = parentB x.path
    · subst e; rw [if_pos rfl, if_pos rfl, hv]; rfl
    · rw [if_neg e, if_neg (fun h => e h.symm)]; exact h.kid p
  · have := putV_len kl (parentB x.path) (.int .i64 v); have := h.kmax; omega
def PutRes (B0 wb : Nat) (M : PW) (s : Nat) (w : World) (e : Ending) (w' : World) : Prop := (∃ v, e = .returned v) ∧ WorldAt B0 w' wb M s ∧ Fr B0 w w'
set_option maxRecDepth 100000 in
set_option maxHeartbeats 2000000 in
theorem put_any (B0 wb : Nat) (M : PW) (s : Nat) (x : Node) (w : World) (h : WorldAt B0 w wb M s) (hn : x.path ∉ M.nodes.map (·.path)) (hid : ∀ f ∈ M.files, 0 ≤ f.id) (hf : x.file < 0 ∨ x.file ∈ M.files.map (·.id)) (hf2 : -9223372036854775808 ≤ x.file ∧ x.file ≤ 9223372036854775807) (hs : s ≤ 1000000) (hl : M.nodes.length ≤ 1000000) :
    Calls Try.prog 60 #[.pointer (some ⟨wb, 0, none⟩), .string x.path, .agg #[.int .i64 x.file, .int .i64 x.mode]] w (PutRes B0 wb (M.put x) (s + 1) w) := by
  obtain ⟨nb, fb, kb, ms, kl, hM, hO⟩ := h
  have HO := Lib.hid hO; clear hO
  have Hn := Lib.hid hn; clear hn
  have HidF := Lib.hid hid; clear hid
  have hx := x.hp
  have hBs := hM.size
  have Hf := Lib.hid hf; clear hf
  obtain ⟨par, hpar⟩ : ∃ par, parentB x.path = par := ⟨_, rfl⟩
  have hparz : par.size ≤ 9223372036854775807 := by rw [← hpar]; exact Nat.le_trans (parentB_size _) hx
  obtain ⟨kc, hkc⟩ : ∃ kc, kidsC M.nodes par = kc := ⟨_, rfl⟩
  have hkc2 : kc ≤ 1000000 := by rw [← hkc]; exact Nat.le_trans (kidsC_le _ _) hl
  have hget := HO.out.kid par
  rw [hkc] at hget
  have Hpar := Lib.hid hpar; clear hpar
  have Hkc := Lib.hid hkc; clear hkc
  have Hget := Lib.hid hget; clear hget
  go_enter Try.func60, Try.ntmps60
  go_upto_region 1 with (fail)
  have hM1 := hM.keep (World.grownBy_alloc w (.cells #[.int .i64 x.file, .int .i64 x.mode] 108) none)
  have hX := Blk.new w 108 #[.int .i64 x.file, .int .i64 x.mode]
  have hFr := Fr.alloc (.cells #[.int .i64 x.file, .int .i64 x.mode] 108) hBs
  have hxb : w.heap.size < (w.alloc (.cells #[.int .i64 x.file, .int .i64 x.mode] 108)).heap.size := by simp
  obtain ⟨W1, hW1⟩ : ∃ W1, W1 = w.alloc (.cells #[.int .i64 x.file, .int .i64 x.mode] 108) := ⟨_, rfl⟩
  rw [← hW1] at hM1 hX hFr hxb ⊢
  clear hW1 hM
  have b0 := hM1.blk.cell 0
  have b2 := hM1.blk.cell 2
  have n0 := hX.cell 0
  have n1 := hX.cell 1
  have hwl := hM1.blk.lt
  refine wp_region_ordG (none) [(0, true), (1, true), (2, true), (3, true), (4, true), (5, true)] 6 (by kernel_rfl) (by kernel_rfl) fun hG0 => ?_
  repeat (first
    | (refine ord_skipB rfl (by rfl) ?_; simp only [Act.put, List.setIfInBounds_toArray, List.set_cons_zero, List.set_cons_succ])
    | (refine ord_qE rfl (by rfl) ?_; apply Exists.intro; refine ⟨fun w' hc' => ?_, ?_⟩; (focus (go_simp; (try go_bits); (try simp only [↓IntWalk.iteOmega]); with_reducible rfl)); simp only [Act.put, List.setIfInBounds_toArray, List.set_cons_zero, List.set_cons_succ]))
  refine ord_tail rfl fun K hK => ?_
  go_wp2_with (refine wpList_mv_put rfl Try.mtNodes _ _ _ (.inl rfl) rfl hM1.nodes (T := strK) (q := x.path) rfl hx rfl (by simp [nodesE]; unfold maxLen; omega) ?_; intro w2 hm2 hg2 hs2)
  refine hK.out _ _ ?_
  clear hK K
  replace hg2 := grown_trans (grown_drew W1 (some nb)) hg2
  have hM2 := hM1.set_nodes hg2 (ns' := nodesE (M.nodes ++ [x])) (by rw [← nodesE_put Hn.out]; exact hm2)
  replace hFr := hFr.trans (Fr.of_map hg2 hM1.nodes hM1.new.2.1 hM1.size)
  replace hX := hX.grown hg2 (fun e => by injection e with e; exact hX.ne_map hM1.nodes e)
  clear hm2 hg2 hs2 b0 b2 n0 n1 hwl hM1 hG0
  go_upto_region 2 with (fail)
  have b2 := hM2.blk.cell 2
  have n0 := hX.cell 0
  have hwl := hM2.blk.lt
  have hml := fun (w' : World) (hh : ∀ b, b < w2.heap.size → w'.heap[b]? = w2.heap[b]?) => hM2.kids.keep (hh kb hM2.kids.lt)
  have Hml := Lib.hid hml; clear hml
  refine wp_region_ordG (none) [(0, true), (1, true), (2, true), (3, true), (4, true), (5, false), (6, true), (7, true)] 8 (by kernel_rfl) (by kernel_rfl) fun hG0 => ?_
  repeat (first
    | (refine ord_skipB rfl (by rfl) ?_; simp only [Act.put, List.setIfInBounds_toArray, List.set_cons_zero, List.set_cons_succ])
    | (refine ord_qH rfl (by rfl) (fun w' hh => exec_mv_look Try.mtKids rfl rfl rfl (Hml.out w' fun b hb => hh b hb (by simp)) hparz Hget.out) ?_; simp only [Act.put, List.setIfInBounds_toArray, List.set_cons_zero, List.set_cons_succ])
    | (refine ord_qE rfl (by rfl) ?_; apply Exists.intro; refine ⟨fun w' hc' => ?_, ?_⟩; (focus (go_simp; (try go_bits); (try simp only [↓IntWalk.iteOmega]); with_reducible rfl)); simp only [Act.put, List.setIfInBounds_toArray, List.set_cons_zero, List.set_cons_succ]))
  refine ord_eB rfl fun K hK => ?_
  go_wp2_with (go_at_call 75; refine (parent_any _ _ hx).mono ?_; rintro e w3 ⟨rfl, hb3⟩; rw [Hpar.out])
  have hG1 := grown_trans hG0 (grown_below hb3 (Nat.le_refl _))
  refine hK.out _ _ hG1 ?_
  clear hK K
  repeat (first
    | (refine ord_skipB rfl (by rfl) ?_; simp only [Act.put, List.setIfInBounds_toArray, List.set_cons_zero, List.set_cons_succ])
    | (refine ord_qH rfl (by rfl) (fun w' hh => exec_mv_look Try.mtKids rfl rfl rfl (Hml.out w' fun b hb => hh b hb (by simp)) hparz Hget.out) ?_; simp only [Act.put, List.setIfInBounds_toArray, List.set_cons_zero, List.set_cons_succ])
    | (refine ord_qE rfl (by rfl) ?_; apply Exists.intro; refine ⟨fun w' hc' => ?_, ?_⟩; (focus (go_simp; (try go_bits); (try simp only [↓IntWalk.iteOmega]); with_reducible rfl)); simp only [Act.put, List.setIfInBounds_toArray, List.set_cons_zero, List.set_cons_succ]))
  have hM3 := hM2.keep hG1
  refine ord_tail rfl fun K hK => ?_
  go_wp2_with (refine wpList_mv_put rfl Try.mtKids _ _ _ (.inl rfl) rfl hM3.kids (T := strK) (q := par) rfl hparz rfl (by have := HO.out.kmax; unfold maxLen; omega) ?_; intro w4 hm4 hg4 hs4)
  refine hK.out _ _ ?_
  clear hK K
  have hM4 := hM3.set_kids hg4 hm4
  replace hFr := (hFr.trans (Fr.of_none hG1 hM2.size)).trans (Fr.of_map hg4 hM3.kids hM3.new.2.2.2 hM3.size)
  replace hX := (hX.grown hG1 (by simp)).grown hg4 (fun e => by injection e with e; exact (hX.grown hG1 (by simp)).ne_map hM3.kids e)
  have hkn : (keysV kl).Nodup := hM3.kids.1
  have Hkn := Lib.hid hkn
  clear hkn b2 n0 hwl Hml hM3 hM2 hm4 hg4 hs4 hG0 hG1 hb3
  have n0 := hX.cell 0
  by_cases h0 : 0 ≤ x.file
  · have hmem := Hf.out.resolve_left (by omega)
    obtain ⟨m0, hm1, hm2, hm3⟩ := mf_of_pf HO.out hmem
    have hb := hM4.fblk m0 hm2
    have hcn := HO.out.cnt m0 hm2
    have hcl := namesC_le M.nodes m0.id
    obtain ⟨nc, hnc⟩ : ∃ nc, namesC M.nodes m0.id = nc := ⟨_, rfl⟩
    rw [hnc] at hcn hcl
    have Hnc := Lib.hid hnc; clear hnc
    unfold MF.cells at hb
    rw [hcn] at hb
    have Hcn := Lib.hid hcn; clear hcn
    have hgf : (getV (msE ms) x.file).getD (.pointer none) = .pointer (some ⟨m0.g, 0, none⟩) := by rw [msE_get, hm1]; rfl
    have Hgf := Lib.hid hgf; clear hgf
    have Hm3 := Lib.hid hm3; clear hm3 hm1 hmem
    have Hm2 := Lib.hid hm2; clear hm2
    have hml := fun (w' : World) (hh : ∀ b, b < w4.heap.size → w'.heap[b]? = w4.heap[b]?) => hM4.files.keep (hh fb hM4.files.lt)
    have Hml := Lib.hid hml; clear hml
    have hok : intK.ok x.file := wf_i64 hf2.1 hf2.2
    go_upto_region 4 with (fail)
    have b1 := hM4.blk.cell 1
    have f1 := hb.cell 1
    have z1 := hb.frozen 1
    have hwl := hM4.blk.lt
    have hbl := hb.lt
    have hXl := hX.lt
    refine wp_region_ordG (none) [(0, true), (1, true), (2, true), (3, true), (4, true), (5, true), (6, true), (7, true), (8, true), (9, true), (10, true), (11, true), (12, true)] 13 (by kernel_rfl) (by kernel_rfl) fun hG0 => ?_
    repeat (first
      | (refine ord_skipB rfl (by rfl) ?_; simp only [Act.put, List.setIfInBounds_toArray, List.set_cons_zero, List.set_cons_succ])
      | (refine ord_qH rfl (by rfl) (fun w' hh => exec_mv_look Try.mtFiles rfl rfl rfl (Hml.out w' fun b hb => hh b hb (by simp)) hok Hgf.out) ?_; simp only [Act.put, List.setIfInBounds_toArray, List.set_cons_zero, List.set_cons_succ])
      | (refine ord_qE rfl (by rfl) ?_; apply Exists.intro; refine ⟨fun w' hc' => ?_, ?_⟩; (focus (go_simp; (try go_bits); (try simp only [↓IntWalk.iteOmega]); with_reducible rfl)); simp only [Act.put, List.setIfInBounds_toArray, List.set_cons_zero, List.set_cons_succ]))
    refine ord_tail rfl fun K hK => ?_
    go_wp2_with (fail)
    refine hK.out _ _ ?_
    clear hK K
    have hM5 := (hM4.keep (grown_drew w4 none)).set_file Hm2.out 1 (.int .i64 (nc + 1)) upCnt (fun m => ⟨rfl, rfl, rfl, rfl, rfl⟩) (by simp [MF.cells, upCnt, Hcn.out])
    go_wp2
    refine bodyPost_ret (results_none rfl _ _ _) rfl ⟨⟨_, rfl⟩, ⟨nb, fb, kb, _, _, hM5, ?_⟩, ?_⟩
    · have := Hpar.out
      subst this
      refine wok_put HO.out x Hkn.out _ (by rw [Hkc.out]) _ (setMF_pf _ _ _ fun m => rfl) (fun m hm => ?_)
      obtain ⟨m1, q1, rfl⟩ := List.mem_map.1 hm
      split
      · rename_i e
        have e2 : m1 = m0 := by
          refine hM4.one q1 Hm2.out ?_
          rcases List.mem_iff_getElem.1 q1 with ⟨a, ha, rfl⟩
          rcases List.mem_iff_getElem.1 Hm2.out with ⟨b, hb, eb⟩
          rw [← eb] at e ⊢
          rcases Nat.lt_trichotomy a b with hlt | rfl | hlt
          · exact absurd e (List.pairwise_iff_getElem.1 hM4.gs a b ha hb hlt)
          · rfl
          · exact absurd e.symm (List.pairwise_iff_getElem.1 hM4.gs b a hb ha hlt)
        subst e2
        show m1.cnt + 1 = (namesC M.nodes m1.id : Int) + (if x.file = m1.id then 1 else 0)
        rw [if_pos Hm3.out.symm, Hcn.out, Hnc.out]
      · rename_i e
        rw [if_neg (fun h => e (by rw [hM4.one q1 Hm2.out (by rw [← h, Hm3.out])])), HO.out.cnt m1 q1]
        simp
    · exact hFr.trans ((Fr.of_none (grown_drew w4 none) hM4.size).trans (Fr.setCell (hM4.keep (grown_drew w4 none) |>.fblk m0 Hm2.out) (.inr rfl) (hM4.fnew m0 Hm2.out) _))
  · go_wp2
    refine bodyPost_ret (results_none rfl _ _ _) rfl ⟨⟨_, rfl⟩, ⟨nb, fb, kb, ms, _, hM4, ?_⟩, hFr⟩
    have := Hpar.out
    subst this
    exact wok_put HO.out x Hkn.out _ (by rw [Hkc.out]) ms rfl (fun m hm => by
      rw [if_neg, HO.out.cnt m hm]
      · simp
      · have := pf_of_mf HO.out hm
        obtain ⟨f, hf, e⟩ := this
        have := HidF.out f hf
        omega)
end Go.Proofs.Ythmeffpickejkaa
