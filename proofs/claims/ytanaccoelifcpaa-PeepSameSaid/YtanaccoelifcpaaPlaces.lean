/- model.put: a node is put at a path. model.take: a node is taken away. model.made: a new file at a path. model.look: what is at a path, by its prefixes. -/
import Derived.Test.YtanaccoelifcpaaWorld
import Derived.Test.YtanaccoelifcpaaPath
import Derived.Test.YtanaccoelifcpaaKit
import Derived.Lib.OthersKept

namespace Go.Proofs.Ytanaccoelifcpaa
open Go.RowKit

def PW.put (M : PW) (x : Node) : PW := { M with nodes := M.nodes ++ [x] }
theorem Try.mtNodes : MT 67 9 75 (.agg #[.int .i64 0, .int .i64 0]) := ⟨Try.underlying67, fun w => by kernel_rfl⟩
theorem Try.mtKids : MT 69 9 3 (.int .i64 0) := ⟨Try.underlying69, fun w => by kernel_rfl⟩
theorem Try.mtFiles : MT 68 3 77 (.pointer none) := ⟨Try.underlying68, fun w => by kernel_rfl⟩
theorem namesC_snoc (l : List Node) (x : Node) (i : Int) : namesC (l ++ [x]) i = namesC l i + if x.file = i then 1 else 0 := by
  simp only [namesC, List.countP_append, List.countP_singleton, decide_eq_true_eq]
theorem kidsC_snoc (l : List Node) (x : Node) (p : ByteArray) : kidsC (l ++ [x]) p = kidsC l p + if parentB x.path = p then 1 else 0 := by
  simp only [kidsC, List.countP_append, List.countP_singleton, decide_eq_true_eq]
theorem kidsC_le (l : List Node) (p : ByteArray) : kidsC l p ≤ l.length := List.countP_le_length
theorem namesC_le (l : List Node) (i : Int) : namesC l i ≤ l.length := List.countP_le_length
theorem putV_len {α : Type} [DecidableEq α] (es : List (α × Value)) (a : α) (v : Value) : (putV es a v).length ≤ es.length + 1 := by unfold putV; split <;> simp
theorem nodesE_put {l : List Node} {x : Node} (h : x.path ∉ l.map (·.path)) : putV (nodesE l) x.path (nodeV x.file x.mode) = nodesE (l ++ [x]) := by
  unfold putV
  rw [nodesE_keys, if_neg h]
  simp [nodesE, Node.ent]
theorem mf_of_pf {M : PW} {s : Nat} {ms : List MF} {kl : List (ByteArray × Value)} (h : WOk M s ms kl) {i : Int} (hi : i ∈ M.files.map (·.id)) : ∃ m, mfAt ms i = some m ∧ m ∈ ms ∧ m.id = i := by
  rw [← h.mfs] at hi
  simp only [List.map_map, List.mem_map, Function.comp, MF.pf] at hi
  obtain ⟨m, hm, e⟩ := hi
  cases hq : mfAt ms i with
  | none => simp only [mfAt, List.find?_eq_none, decide_eq_true_eq] at hq; exact absurd e (hq m hm)
  | some m' => exact ⟨m', rfl, mfAt_some hq⟩
theorem pf_of_mf {M : PW} {s : Nat} {ms : List MF} {kl : List (ByteArray × Value)} (h : WOk M s ms kl) {m : MF} (hm : m ∈ ms) : ∃ f ∈ M.files, f.id = m.id := by
  rw [← h.mfs]
  exact ⟨m.pf, List.mem_map.2 ⟨m, hm, rfl⟩, rfl⟩
theorem setMF_pf (ms : List MF) (g : Nat) (f : MF → MF) (hf : ∀ m, (f m).pf = m.pf) : (setMF ms g f).map MF.pf = ms.map MF.pf := by
  simp only [setMF, List.map_map]
  refine List.map_congr_left fun m _ => ?_
  simp only [Function.comp]
  split
  · exact hf m
  · rfl
theorem wf_i64 {v : Int} (h1 : -9223372036854775808 ≤ v) (h2 : v ≤ 9223372036854775807) : (Lit.int .i64 v).wf = true := by
  have e1 : IntKind.i64.min = -9223372036854775808 := by decide
  have e2 : IntKind.i64.max = 9223372036854775807 := by decide
  simp only [Lit.wf, e1, e2, Bool.and_eq_true, decide_eq_true_eq]
  exact ⟨h1, h2⟩
/-- Files are told apart by number and by block. -/
theorem WMem.one {B0 wb nb fb kb : Nat} {w : World} {ns kl : List (ByteArray × Value)} {ms : List MF} {next : Int} (h : WMem B0 w wb nb fb kb ns ms kl next) {m m' : MF} (hm : m ∈ ms) (hm' : m' ∈ ms) (e : m.id = m'.id) : m = m' := by
  have hn : ((ms).map (·.id)).Nodup := by have := h.files.1; rwa [msE_keys] at this
  rcases List.mem_iff_getElem.1 hm with ⟨a, ha, rfl⟩
  rcases List.mem_iff_getElem.1 hm' with ⟨b, hb, rfl⟩
  have := (List.getElem_inj (h₀ := by simpa using ha) (h₁ := by simpa using hb) hn).1 (by simpa using e)
  subst this
  rfl
def upCnt (m : MF) : MF := { m with cnt := m.cnt + 1 }
theorem wok_put {M : PW} {s : Nat} {ms : List MF} {kl : List (ByteArray × Value)} (h : WOk M s ms kl) (x : Node) (hk : (keysV kl).Nodup) (v : Int) (hv : v = kidsC M.nodes (parentB x.path) + 1) (ms' : List MF) (hpf : ms'.map MF.pf = ms.map MF.pf) (hc : ∀ m ∈ ms', m.cnt = namesC M.nodes m.id + if x.file = m.id then 1 else 0) :
    WOk (M.put x) (s + 1) ms' (putV kl (parentB x.path) (.int .i64 v)) := by
  refine ⟨by rw [hpf]; exact h.mfs, fun m hm => ?_, fun p => ?_, ?_⟩
  · rw [hc m hm]
    simp only [PW.put, namesC_snoc]
    split <;> simp
  · rw [putV_get hk]
    simp only [PW.put, kidsC_snoc]
    by_cases e : p = parentB x.path
    · subst e; rw [if_pos rfl, if_pos rfl, hv]; rfl
    · rw [if_neg e, if_neg (fun h => e h.symm)]; exact h.kid p
  · have := putV_len kl (parentB x.path) (.int .i64 v); have := h.kmax; omega
def PutRes (B0 wb : Nat) (M : PW) (s : Nat) (w : World) (e : Ending) (w' : World) : Prop := (∃ v, e = .returned v) ∧ WorldAt B0 w' wb M s ∧ Fr B0 w w'
set_option maxRecDepth 100000 in
set_option maxHeartbeats 2000000 in
theorem put_any (B0 wb : Nat) (M : PW) (s : Nat) (x : Node) (w : World) (h : WorldAt B0 w wb M s) (hn : x.path ∉ M.nodes.map (·.path)) (hid : ∀ f ∈ M.files, 0 ≤ f.id) (hf : x.file < 0 ∨ x.file ∈ M.files.map (·.id)) (hf2 : -9223372036854775808 ≤ x.file ∧ x.file ≤ 9223372036854775807) (hs : s ≤ 1000000) (hl : M.nodes.length ≤ 1000000) :
    Calls Try.prog 39 #[.pointer (some ⟨wb, 0, none⟩), .string x.path, .agg #[.int .i64 x.file, .int .i64 x.mode]] w (PutRes B0 wb (M.put x) (s + 1) w) := by
  obtain ⟨nb, fb, kb, ms, kl, hM, hO⟩ := h
  have HO := Lib.hid hO; clear hO
  have Hn := Lib.hid hn; clear hn
  have HidF := Lib.hid hid; clear hid
  have hx := x.hp
  have hBs := hM.size
  have Hf := Lib.hid hf; clear hf
  obtain ⟨par, hpar⟩ : ∃ par, parentB x.path = par := ⟨_, rfl⟩
  have hparz : par.size ≤ 9223372036854775807 := by rw [← hpar]; exact Nat.le_trans (parentB_size _) hx
  obtain ⟨kc, hkc⟩ : ∃ kc, kidsC M.nodes par = kc := ⟨_, rfl⟩
  have hkc2 : kc ≤ 1000000 := by rw [← hkc]; exact Nat.le_trans (kidsC_le _ _) hl
  have hget := HO.out.kid par
  rw [hkc] at hget
  have Hpar := Lib.hid hpar; clear hpar
  have Hkc := Lib.hid hkc; clear hkc
  have Hget := Lib.hid hget; clear hget
  go_enter Try.func39, Try.ntmps39
  go_upto_region 1 with (fail)
  have hM1 := hM.keep (World.grownBy_alloc w (.cells #[.int .i64 x.file, .int .i64 x.mode] 75) none)
  have hX := Blk.new w 75 #[.int .i64 x.file, .int .i64 x.mode]
  have hFr := Fr.alloc (.cells #[.int .i64 x.file, .int .i64 x.mode] 75) hBs
  have hxb : w.heap.size < (w.alloc (.cells #[.int .i64 x.file, .int .i64 x.mode] 75)).heap.size := by simp
  obtain ⟨W1, hW1⟩ : ∃ W1, W1 = w.alloc (.cells #[.int .i64 x.file, .int .i64 x.mode] 75) := ⟨_, rfl⟩
  rw [← hW1] at hM1 hX hFr hxb ⊢
  clear hW1 hM
  have b0 := hM1.blk.cell 0
  have b2 := hM1.blk.cell 2
  have n0 := hX.cell 0
  have n1 := hX.cell 1
  have hwl := hM1.blk.lt
  refine wp_region_ordG (none) [(0, true), (1, true), (2, true), (3, true), (4, true), (5, true)] 6 (by kernel_rfl) (by kernel_rfl) fun hG0 => ?_
  repeat (first
    | (refine ord_skipB rfl (by rfl) ?_; simp only [Act.put, List.setIfInBounds_toArray, List.set_cons_zero, List.set_cons_succ])
    | (refine ord_qE rfl (by rfl) ?_; apply Exists.intro; refine ⟨fun w' hc' => ?_, ?_⟩; (focus (go_simp; (try go_bits); (try simp only [↓IntWalk.iteOmega]); with_reducible rfl)); simp only [Act.put, List.setIfInBounds_toArray, List.set_cons_zero, List.set_cons_succ]))
  refine ord_tail rfl fun K hK => ?_
  go_wp2_with (refine wpList_mv_put rfl Try.mtNodes _ _ _ (.inl rfl) rfl hM1.nodes (T := strK) (q := x.path) rfl hx rfl (by simp [nodesE]; unfold maxLen; omega) ?_; intro w2 hm2 hg2 hs2)
  refine hK.out _ _ ?_
  clear hK K
  replace hg2 := grown_trans (grown_drew W1 (some nb)) hg2
  have hM2 := hM1.set_nodes hg2 (ns' := nodesE (M.nodes ++ [x])) (by rw [← nodesE_put Hn.out]; exact hm2)
  replace hFr := hFr.trans (Fr.of_map hg2 hM1.nodes hM1.new.2.1 hM1.size)
  replace hX := hX.grown hg2 (fun e => by injection e with e; exact hX.ne_map hM1.nodes e)
  clear hm2 hg2 hs2 b0 b2 n0 n1 hwl hM1 hG0
  go_upto_region 2 with (fail)
  have b2 := hM2.blk.cell 2
  have n0 := hX.cell 0
  have hwl := hM2.blk.lt
  have hml := fun (w' : World) (hh : ∀ b, b < w2.heap.size → w'.heap[b]? = w2.heap[b]?) => hM2.kids.keep (hh kb hM2.kids.lt)
  have Hml := Lib.hid hml; clear hml
  refine wp_region_ordG (none) [(0, true), (1, true), (2, true), (3, true), (4, true), (5, false), (6, true), (7, true)] 8 (by kernel_rfl) (by kernel_rfl) fun hG0 => ?_
  repeat (first
    | (refine ord_skipB rfl (by rfl) ?_; simp only [Act.put, List.setIfInBounds_toArray, List.set_cons_zero, List.set_cons_succ])
    | (refine ord_qH rfl (by rfl) (fun w' hh => exec_mv_look Try.mtKids rfl rfl rfl (Hml.out w' fun b hb => hh b hb (by simp)) hparz Hget.out) ?_; simp only [Act.put, List.setIfInBounds_toArray, List.set_cons_zero, List.set_cons_succ])
    | (refine ord_qE rfl (by rfl) ?_; apply Exists.intro; refine ⟨fun w' hc' => ?_, ?_⟩; (focus (go_simp; (try go_bits); (try simp only [↓IntWalk.iteOmega]); with_reducible rfl)); simp only [Act.put, List.setIfInBounds_toArray, List.set_cons_zero, List.set_cons_succ]))
  refine ord_eB rfl fun K hK => ?_
  go_wp2_with (go_at_call 47; refine (parent_any _ _ hx).mono ?_; rintro e w3 ⟨rfl, hb3⟩; rw [Hpar.out])
  have hG1 := grown_trans hG0 (grown_below hb3 (Nat.le_refl _))
  refine hK.out _ _ hG1 ?_
  clear hK K
  repeat (first
    | (refine ord_skipB rfl (by rfl) ?_; simp only [Act.put, List.setIfInBounds_toArray, List.set_cons_zero, List.set_cons_succ])
    | (refine ord_qH rfl (by rfl) (fun w' hh => exec_mv_look Try.mtKids rfl rfl rfl (Hml.out w' fun b hb => hh b hb (by simp)) hparz Hget.out) ?_; simp only [Act.put, List.setIfInBounds_toArray, List.set_cons_zero, List.set_cons_succ])
    | (refine ord_qE rfl (by rfl) ?_; apply Exists.intro; refine ⟨fun w' hc' => ?_, ?_⟩; (focus (go_simp; (try go_bits); (try simp only [↓IntWalk.iteOmega]); with_reducible rfl)); simp only [Act.put, List.setIfInBounds_toArray, List.set_cons_zero, List.set_cons_succ]))
  have hM3 := hM2.keep hG1
  refine ord_tail rfl fun K hK => ?_
  go_wp2_with (refine wpList_mv_put rfl Try.mtKids _ _ _ (.inl rfl) rfl hM3.kids (T := strK) (q := par) rfl hparz rfl (by have := HO.out.kmax; unfold maxLen; omega) ?_; intro w4 hm4 hg4 hs4)
  refine hK.out _ _ ?_
  clear hK K
  have hM4 := hM3.set_kids hg4 hm4
  replace hFr := (hFr.trans (Fr.of_none hG1 hM2.size)).trans (Fr.of_map hg4 hM3.kids hM3.new.2.2.2 hM3.size)
  replace hX := (hX.grown hG1 (by simp)).grown hg4 (fun e => by injection e with e; exact (hX.grown hG1 (by simp)).ne_map hM3.kids e)
  have hkn : (keysV kl).Nodup := hM3.kids.1
  have Hkn := Lib.hid hkn
  clear hkn b2 n0 hwl Hml hM3 hM2 hm4 hg4 hs4 hG0 hG1 hb3
  have n0 := hX.cell 0
  by_cases h0 : 0 ≤ x.file
  · have hmem := Hf.out.resolve_left (by omega)
    obtain ⟨m0, hm1, hm2, hm3⟩ := mf_of_pf HO.out hmem
    have hb := hM4.fblk m0 hm2
    have hcn := HO.out.cnt m0 hm2
    have hcl := namesC_le M.nodes m0.id
    obtain ⟨nc, hnc⟩ : ∃ nc, namesC M.nodes m0.id = nc := ⟨_, rfl⟩
    rw [hnc] at hcn hcl
    have Hnc := Lib.hid hnc; clear hnc
    unfold MF.cells at hb
    rw [hcn] at hb
    have Hcn := Lib.hid hcn; clear hcn
    have hgf : (getV (msE ms) x.file).getD (.pointer none) = .pointer (some ⟨m0.g, 0, none⟩) := by rw [msE_get, hm1]; rfl
    have Hgf := Lib.hid hgf; clear hgf
    have Hm3 := Lib.hid hm3; clear hm3 hm1 hmem
    have Hm2 := Lib.hid hm2; clear hm2
    have hml := fun (w' : World) (hh : ∀ b, b < w4.heap.size → w'.heap[b]? = w4.heap[b]?) => hM4.files.keep (hh fb hM4.files.lt)
    have Hml := Lib.hid hml; clear hml
    have hok : intK.ok x.file := wf_i64 hf2.1 hf2.2
    go_upto_region 4 with (fail)
    have b1 := hM4.blk.cell 1
    have f1 := hb.cell 1
    have z1 := hb.frozen 1
    have hwl := hM4.blk.lt
    have hbl := hb.lt
    have hXl := hX.lt
    refine wp_region_ordG (none) [(0, true), (1, true), (2, true), (3, true), (4, true), (5, true), (6, true), (7, true), (8, true), (9, true), (10, true), (11, true), (12, true)] 13 (by kernel_rfl) (by kernel_rfl) fun hG0 => ?_
    repeat (first
      | (refine ord_skipB rfl (by rfl) ?_; simp only [Act.put, List.setIfInBounds_toArray, List.set_cons_zero, List.set_cons_succ])
      | (refine ord_qH rfl (by rfl) (fun w' hh => exec_mv_look Try.mtFiles rfl rfl rfl (Hml.out w' fun b hb => hh b hb (by simp)) hok Hgf.out) ?_; simp only [Act.put, List.setIfInBounds_toArray, List.set_cons_zero, List.set_cons_succ])
      | (refine ord_qE rfl (by rfl) ?_; apply Exists.intro; refine ⟨fun w' hc' => ?_, ?_⟩; (focus (go_simp; (try go_bits); (try simp only [↓IntWalk.iteOmega]); with_reducible rfl)); simp only [Act.put, List.setIfInBounds_toArray, List.set_cons_zero, List.set_cons_succ]))
    refine ord_tail rfl fun K hK => ?_
    go_wp2_with (fail)
    refine hK.out _ _ ?_
    clear hK K
    have hM5 := (hM4.keep (grown_drew w4 none)).set_file Hm2.out 1 (.int .i64 (nc + 1)) upCnt (fun m => ⟨rfl, rfl, rfl, rfl, rfl⟩) (by simp [MF.cells, upCnt, Hcn.out])
    go_wp2
    refine bodyPost_ret (results_none rfl _ _ _) rfl ⟨⟨_, rfl⟩, ⟨nb, fb, kb, _, _, hM5, ?_⟩, ?_⟩
    · have := Hpar.out
      subst this
      refine wok_put HO.out x Hkn.out _ (by rw [Hkc.out]) _ (setMF_pf _ _ _ fun m => rfl) (fun m hm => ?_)
      obtain ⟨m1, q1, rfl⟩ := List.mem_map.1 hm
      split
      · rename_i e
        have e2 : m1 = m0 := by
          refine hM4.one q1 Hm2.out ?_
          rcases List.mem_iff_getElem.1 q1 with ⟨a, ha, rfl⟩
          rcases List.mem_iff_getElem.1 Hm2.out with ⟨b, hb, eb⟩
          rw [← eb] at e ⊢
          rcases Nat.lt_trichotomy a b with hlt | rfl | hlt
          · exact absurd e (List.pairwise_iff_getElem.1 hM4.gs a b ha hb hlt)
          · rfl
          · exact absurd e.symm (List.pairwise_iff_getElem.1 hM4.gs b a hb ha hlt)
        subst e2
        show m1.cnt + 1 = (namesC M.nodes m1.id : Int) + (if x.file = m1.id then 1 else 0)
        rw [if_pos Hm3.out.symm, Hcn.out, Hnc.out]
      · rename_i e
        rw [if_neg (fun h => e (by rw [hM4.one q1 Hm2.out (by rw [← h, Hm3.out])])), HO.out.cnt m1 q1]
        simp
    · exact hFr.trans ((Fr.of_none (grown_drew w4 none) hM4.size).trans (Fr.setCell (hM4.keep (grown_drew w4 none) |>.fblk m0 Hm2.out) (.inr rfl) (hM4.fnew m0 Hm2.out) _))
  · go_wp2
    refine bodyPost_ret (results_none rfl _ _ _) rfl ⟨⟨_, rfl⟩, ⟨nb, fb, kb, ms, _, hM4, ?_⟩, hFr⟩
    have := Hpar.out
    subst this
    exact wok_put HO.out x Hkn.out _ (by rw [Hkc.out]) ms rfl (fun m hm => by
      rw [if_neg, HO.out.cnt m hm]
      · simp
      · have := pf_of_mf HO.out hm
        obtain ⟨f, hf, e⟩ := this
        have := HidF.out f hf
        omega)
end Go.Proofs.Ytanaccoelifcpaa

namespace Go.Proofs.Ytanaccoelifcpaa
open Go.RowKit

def noPath (l : List Node) (p : ByteArray) : List Node := l.filter fun y => !decide (y.path = p)
/-- The node x is taken away. -/
def PW.take (M : PW) (x : Node) : PW :=
  { M with nodes := noPath M.nodes x.path, files := if 0 ≤ x.file ∧ namesC (noPath M.nodes x.path) x.file = 0 then M.files.filter (fun f => !decide (f.id = x.file)) else M.files }
theorem nodesE_del (l : List Node) (p : ByteArray) : delV (nodesE l) p = nodesE (noPath l p) := by
  simp [delV, nodesE, noPath, List.filter_map, Function.comp_def, Node.ent]
  rfl
theorem count_no (f : Node → Bool) {x : Node} : ∀ {l : List Node}, Apart l → x ∈ l → l.countP f = (noPath l x.path).countP f + if f x = true then 1 else 0
  | [], _, h => by cases h
  | a :: t, hA, h => by
    simp only [Apart, List.map_cons, List.nodup_cons] at hA
    have hrest : a.path = x.path → noPath t x.path = t := fun e => by
      unfold noPath
      rw [List.filter_eq_self]
      intro y hy
      simp only [Bool.not_eq_true', decide_eq_false_iff_not]
      exact fun e2 => hA.1 (List.mem_map.2 ⟨y, hy, by rw [e2, e]⟩)
    by_cases e : a.path = x.path
    · have ea : a = x := by
        rcases List.mem_cons.1 h with e1 | e1
        · exact e1.symm
        · exact absurd (List.mem_map.2 ⟨x, e1, e.symm⟩) hA.1
      subst ea
      have : noPath (a :: t) a.path = t := by rw [noPath, List.filter_cons_of_neg (by simp)]; exact hrest rfl
      rw [this, List.countP_cons]
    · have hx : x ∈ t := by
        rcases List.mem_cons.1 h with e1 | e1
        · exact absurd (by rw [e1]) e
        · exact e1
      have : noPath (a :: t) x.path = a :: noPath t x.path := by rw [noPath, List.filter_cons_of_pos (by simp [e])]; rfl
      rw [this, List.countP_cons, List.countP_cons, count_no f hA.2 hx]
      omega
theorem noPath_len (l : List Node) (p : ByteArray) : (noPath l p).length ≤ l.length := List.length_filter_le _ _
def downCnt (m : MF) : MF := { m with cnt := m.cnt - 1 }
theorem wok_take {M : PW} {s : Nat} {ms : List MF} {kl : List (ByteArray × Value)} (h : WOk M s ms kl) {x : Node} (hA : Apart M.nodes) (hx : x ∈ M.nodes) (hk : (keysV kl).Nodup) (v : Int) (hv : v = kidsC M.nodes (parentB x.path) - 1) (ms' : List MF) (hpf : ms'.map MF.pf = (M.take x).files) (hc : ∀ m ∈ ms', m.cnt = namesC M.nodes m.id - if x.file = m.id then 1 else 0) :
    WOk (M.take x) (s + 1) ms' (putV kl (parentB x.path) (.int .i64 v)) := by
  refine ⟨hpf, fun m hm => ?_, fun p => ?_, ?_⟩
  · rw [hc m hm]
    have := count_no (fun y => decide (y.file = m.id)) hA hx
    simp only [decide_eq_true_eq] at this
    simp only [namesC, PW.take]
    rw [this]
    split <;> simp
  · rw [putV_get hk]
    have := count_no (fun y => decide (parentB y.path = p)) hA hx
    simp only [decide_eq_true_eq] at this
    by_cases e : p = parentB x.path
    · subst e
      rw [if_pos rfl, hv]
      simp only [Option.getD_some, PW.take, kidsC]
      rw [this, if_pos rfl]
      simp
    · rw [if_neg e, h.kid p]
      simp only [PW.take, kidsC]
      rw [this, if_neg (fun h => e h.symm)]
      simp
  · have := putV_len kl (parentB x.path) (.int .i64 v); have := h.kmax; omega
theorem msE_del (ms : List MF) (i : Int) : delV (msE ms) i = msE (ms.filter fun m => !decide (m.id = i)) := by
  simp [delV, msE, List.filter_map, Function.comp_def, MF.ent]
  rfl
set_option maxRecDepth 100000 in
set_option maxHeartbeats 2000000 in
theorem take_any (B0 wb : Nat) (M : PW) (s : Nat) (x : Node) (w : World) (h : WorldAt B0 w wb M s) (hA : Apart M.nodes) (hxm : x ∈ M.nodes) (hid : ∀ f ∈ M.files, 0 ≤ f.id) (hf : x.file < 0 ∨ x.file ∈ M.files.map (·.id)) (hf2 : -9223372036854775808 ≤ x.file ∧ x.file ≤ 9223372036854775807) (hs : s ≤ 1000000) (hl : M.nodes.length ≤ 1000000) :
    Calls Try.prog 74 #[.pointer (some ⟨wb, 0, none⟩), .string x.path] w (PutRes B0 wb (M.take x) (s + 1) w) := by
  obtain ⟨nb, fb, kb, ms, kl, hM, hO⟩ := h
  have HO := Lib.hid hO; clear hO
  have HA := Lib.hid hA; clear hA
  have Hxm := Lib.hid hxm; clear hxm
  have HidF := Lib.hid hid; clear hid
  have hx := x.hp
  have hBs := hM.size
  have Hf := Lib.hid hf; clear hf
  obtain ⟨par, hpar⟩ : ∃ par, parentB x.path = par := ⟨_, rfl⟩
  have hparz : par.size ≤ 9223372036854775807 := by rw [← hpar]; exact Nat.le_trans (parentB_size _) hx
  obtain ⟨kc, hkc⟩ : ∃ kc, kidsC M.nodes par = kc := ⟨_, rfl⟩
  have hkc2 : kc ≤ 1000000 := by rw [← hkc]; exact Nat.le_trans (kidsC_le _ _) hl
  have hget := HO.out.kid par
  rw [hkc] at hget
  have hgn : (getV (nodesE M.nodes) x.path).getD (.agg #[.int .i64 0, .int .i64 0]) = nodeV x.file x.mode := by rw [nodesE_get, nodeAt_mem HA.out Hxm.out]; rfl
  unfold nodeV at hgn
  have Hgn := Lib.hid hgn; clear hgn
  have Hpar := Lib.hid hpar; clear hpar
  have Hkc := Lib.hid hkc; clear hkc
  have Hget := Lib.hid hget; clear hget
  have b0 := hM.blk.cell 0
  go_enter Try.func74, Try.ntmps74
  go_upto_region 1 with (refine wpList_mv_look rfl Try.mtNodes _ _ rfl rfl hM.nodes (T := strK) (q := x.path) rfl hx Hgn.out ?_)
  have hM1 := hM.keep (World.grownBy_alloc w (.cells #[.int .i64 x.file, .int .i64 x.mode] 75) none)
  have hX := Blk.new w 75 #[.int .i64 x.file, .int .i64 x.mode]
  have hFr := Fr.alloc (.cells #[.int .i64 x.file, .int .i64 x.mode] 75) hBs
  obtain ⟨W1, hW1⟩ : ∃ W1, W1 = w.alloc (.cells #[.int .i64 x.file, .int .i64 x.mode] 75) := ⟨_, rfl⟩
  rw [← hW1] at hM1 hX hFr ⊢
  clear hW1 hM b0
  have b0 := hM1.blk.cell 0
  go_upto_region 2 with (refine wpList_mv_del rfl Try.mtNodes _ _ rfl rfl hM1.nodes (T := strK) (q := x.path) rfl hx ?_; intro w2 hm2 hg2 hs2)
  rw [nodesE_del] at hm2
  have hM2 := hM1.set_nodes hg2 hm2
  replace hFr := hFr.trans (Fr.of_map hg2 hM1.nodes hM1.new.2.1 hM1.size)
  replace hX := hX.grown hg2 (fun e => by injection e with e; exact hX.ne_map hM1.nodes e)
  clear hm2 hg2 hs2 b0 hM1
  have b2 := hM2.blk.cell 2
  have hwl := hM2.blk.lt
  have hml := fun (w' : World) (hh : ∀ b, b < w2.heap.size → w'.heap[b]? = w2.heap[b]?) => hM2.kids.keep (hh kb hM2.kids.lt)
  have Hml := Lib.hid hml; clear hml
  refine wp_region_ordG (none) [(0, true), (1, true), (2, true), (3, true), (4, true), (5, false), (6, true), (7, true)] 8 (by kernel_rfl) (by kernel_rfl) fun hG0 => ?_
  repeat (first
    | (refine ord_skipB rfl (by rfl) ?_; simp only [Act.put, List.setIfInBounds_toArray, List.set_cons_zero, List.set_cons_succ])
    | (refine ord_qH rfl (by rfl) (fun w' hh => exec_mv_look Try.mtKids rfl rfl rfl (Hml.out w' fun b hb => hh b hb (by simp)) hparz Hget.out) ?_; simp only [Act.put, List.setIfInBounds_toArray, List.set_cons_zero, List.set_cons_succ])
    | (refine ord_qE rfl (by rfl) ?_; apply Exists.intro; refine ⟨fun w' hc' => ?_, ?_⟩; (focus (go_simp; (try go_bits); (try simp only [↓IntWalk.iteOmega]); with_reducible rfl)); simp only [Act.put, List.setIfInBounds_toArray, List.set_cons_zero, List.set_cons_succ]))
  refine ord_eB rfl fun K hK => ?_
  go_wp2_with (go_at_call 47; refine (parent_any _ _ hx).mono ?_; rintro e w3 ⟨rfl, hb3⟩; rw [Hpar.out])
  have hG1 := grown_trans hG0 (grown_below hb3 (Nat.le_refl _))
  refine hK.out _ _ hG1 ?_
  clear hK K
  repeat (first
    | (refine ord_skipB rfl (by rfl) ?_; simp only [Act.put, List.setIfInBounds_toArray, List.set_cons_zero, List.set_cons_succ])
    | (refine ord_qH rfl (by rfl) (fun w' hh => exec_mv_look Try.mtKids rfl rfl rfl (Hml.out w' fun b hb => hh b hb (by simp)) hparz Hget.out) ?_; simp only [Act.put, List.setIfInBounds_toArray, List.set_cons_zero, List.set_cons_succ])
    | (refine ord_qE rfl (by rfl) ?_; apply Exists.intro; refine ⟨fun w' hc' => ?_, ?_⟩; (focus (go_simp; (try go_bits); (try simp only [↓IntWalk.iteOmega]); with_reducible rfl)); simp only [Act.put, List.setIfInBounds_toArray, List.set_cons_zero, List.set_cons_succ]))
  have hM3 := hM2.keep hG1
  refine ord_tail rfl fun K hK => ?_
  go_wp2_with (refine wpList_mv_put rfl Try.mtKids _ _ _ (.inl rfl) rfl hM3.kids (T := strK) (q := par) rfl hparz rfl (by have := HO.out.kmax; unfold maxLen; omega) ?_; intro w4 hm4 hg4 hs4)
  refine hK.out _ _ ?_
  clear hK K
  have hM4 := hM3.set_kids hg4 hm4
  replace hFr := (hFr.trans (Fr.of_none hG1 hM2.size)).trans (Fr.of_map hg4 hM3.kids hM3.new.2.2.2 hM3.size)
  replace hX := (hX.grown hG1 (by simp)).grown hg4 (fun e => by injection e with e; exact (hX.grown hG1 (by simp)).ne_map hM3.kids e)
  have hkn : (keysV kl).Nodup := hM3.kids.1
  have Hkn := Lib.hid hkn
  clear hkn b2 hwl Hml hM3 hM2 hm4 hg4 hs4 hG0 hG1 hb3
  have n0 := hX.cell 0
  by_cases h0 : x.file < 0
  · go_wp2
    refine bodyPost_ret (results_none rfl _ _ _) rfl ⟨⟨_, rfl⟩, ⟨nb, fb, kb, ms, _, hM4, ?_⟩, hFr⟩
    have := Hpar.out
    subst this
    refine wok_take HO.out HA.out Hxm.out Hkn.out _ (by rw [Hkc.out]) ms ?_ (fun m hm => ?_)
    · rw [HO.out.mfs, PW.take, if_neg (by omega)]
    · rw [if_neg, HO.out.cnt m hm]
      · simp
      · obtain ⟨f, hf, e⟩ := pf_of_mf HO.out hm
        have := HidF.out f hf
        omega
  · have hmem := Hf.out.resolve_left h0
    obtain ⟨m0, hm1, hm2, hm3⟩ := mf_of_pf HO.out hmem
    have hb := hM4.fblk m0 hm2
    have hcn := HO.out.cnt m0 hm2
    have hcl := namesC_le M.nodes m0.id
    obtain ⟨nc, hnc⟩ : ∃ nc, namesC M.nodes m0.id = nc := ⟨_, rfl⟩
    rw [hnc] at hcn hcl
    have hnc2 := count_no (fun y => decide (y.file = m0.id)) HA.out Hxm.out
    rw [show (M.nodes.countP fun y => decide (y.file = m0.id)) = nc from hnc, if_pos (by simp [hm3])] at hnc2
    obtain ⟨n', rfl⟩ : ∃ n', nc = n' + 1 := ⟨_, hnc2⟩
    have hnc3 : namesC (noPath M.nodes x.path) x.file = n' := by rw [namesC, ← hm3]; omega
    have Hnc := Lib.hid hnc; clear hnc hnc2
    have Hnc3 := Lib.hid hnc3; clear hnc3
    unfold MF.cells at hb
    rw [hcn] at hb
    have Hcn := Lib.hid hcn; clear hcn
    have hgf : (getV (msE ms) x.file).getD (.pointer none) = .pointer (some ⟨m0.g, 0, none⟩) := by rw [msE_get, hm1]; rfl
    have Hgf := Lib.hid hgf; clear hgf
    have Hm3 := Lib.hid hm3; clear hm3 hm1 hmem
    have Hm2 := Lib.hid hm2; clear hm2
    have hml := fun (w' : World) (hh : ∀ b, b < w4.heap.size → w'.heap[b]? = w4.heap[b]?) => hM4.files.keep (hh fb hM4.files.lt)
    have Hml := Lib.hid hml; clear hml
    have hok : intK.ok x.file := wf_i64 hf2.1 hf2.2
    go_upto_region 4 with (fail)
    have b1 := hM4.blk.cell 1
    have f1 := hb.cell 1
    have z1 := hb.frozen 1
    have hwl := hM4.blk.lt
    have hbl := hb.lt
    have hXl := hX.lt
    refine wp_region_ordG (none) [(0, true), (1, true), (2, true), (3, true), (4, true), (5, true), (6, true), (7, true), (8, true), (9, true), (10, true), (11, true), (12, true)] 13 (by kernel_rfl) (by kernel_rfl) fun hG0 => ?_
    repeat (first
      | (refine ord_skipB rfl (by rfl) ?_; simp only [Act.put, List.setIfInBounds_toArray, List.set_cons_zero, List.set_cons_succ])
      | (refine ord_qH rfl (by rfl) (fun w' hh => exec_mv_look Try.mtFiles rfl rfl rfl (Hml.out w' fun b hb => hh b hb (by simp)) hok Hgf.out) ?_; simp only [Act.put, List.setIfInBounds_toArray, List.set_cons_zero, List.set_cons_succ])
      | (refine ord_qE rfl (by rfl) ?_; apply Exists.intro; refine ⟨fun w' hc' => ?_, ?_⟩; (focus (go_simp; (try go_bits); (try simp only [↓IntWalk.iteOmega]); with_reducible rfl)); simp only [Act.put, List.setIfInBounds_toArray, List.set_cons_zero, List.set_cons_succ]))
    refine ord_tail rfl fun K hK => ?_
    go_wp2_with (fail)
    refine hK.out _ _ ?_
    clear hK K
    have hM5 := (hM4.keep (grown_drew w4 none)).set_file Hm2.out 1 (.int .i64 n') downCnt (fun m => ⟨rfl, rfl, rfl, rfl, rfl⟩) (by simp [MF.cells, downCnt, Hcn.out])
    have hX5 := (hX.grown (grown_drew w4 none) (by simp)).set_ne ⟨m0.g, 1, none⟩ (.int .i64 n') (fun e => by
      have h1 := hX; have h2 := hb
      unfold Blk at h1 h2
      simp only at e
      rw [e, h2] at h1
      injection h1 with h1; injection h1 with _ h1; cases h1)
    replace hFr := hFr.trans ((Fr.of_none (grown_drew w4 none) hM4.size).trans (Fr.setCell (i := 1) (hM4.keep (grown_drew w4 none) |>.fblk m0 Hm2.out) (.inr rfl) (hM4.fnew m0 Hm2.out) (.int .i64 n')))
    obtain ⟨W5, hW5⟩ : ∃ W5, W5 = (w4.setCell ⟨m0.g, 1, none⟩ (.int .i64 n')).drew := ⟨_, rfl⟩
    replace hM5 : WMem B0 W5 wb nb fb kb (nodesE (noPath M.nodes x.path)) (setMF ms m0.g downCnt) (putV kl par (.int .i64 (↑kc - 1))) M.next := by rw [hW5]; exact hM5
    replace hX5 : Blk W5 w.heap.size 75 #[.int .i64 x.file, .int .i64 x.mode] := by rw [hW5]; exact hX5
    replace hFr : Fr B0 w W5 := by rw [hW5]; exact hFr
    rw [← hW5]
    have hm0' : downCnt m0 ∈ setMF ms m0.g downCnt := List.mem_map.2 ⟨m0, Hm2.out, by rw [if_pos rfl]⟩
    have hb5 := hM5.fblk _ hm0'
    unfold MF.cells downCnt at hb5
    simp only [Hcn.out, Int.natCast_add, Int.cast_ofNat_Int, Int.add_sub_cancel] at hb5
    have hgs : setMF ms m0.g downCnt = ms.map fun m => if m.id = x.file then downCnt m else m := by
      refine List.map_congr_left fun m hm => ?_
      by_cases e : m.id = x.file
      · rw [if_pos e, if_pos (by rw [hM4.one hm Hm2.out (by rw [e, Hm3.out])])]
      · rw [if_neg e, if_neg]
        intro eg
        refine e ?_
        rcases List.mem_iff_getElem.1 hm with ⟨a, ha, rfl⟩
        rcases List.mem_iff_getElem.1 Hm2.out with ⟨b, hb, eb⟩
        have e3 := Hm3.out
        rw [← eb] at eg e3
        rcases Nat.lt_trichotomy a b with hlt | rfl | hlt
        · exact absurd eg (List.pairwise_iff_getElem.1 hM4.gs a b ha hb hlt)
        · exact e3
        · exact absurd eg.symm (List.pairwise_iff_getElem.1 hM4.gs b a hb ha hlt)
    have Hgs := Lib.hid hgs; clear hgs
    have Hgf5 : Hid ((getV (msE (setMF ms m0.g downCnt)) x.file).getD (.pointer none) = .pointer (some ⟨m0.g, 0, none⟩)) := by
      have e : msE (setMF ms m0.g downCnt) = msE ms := by
        simp only [msE, setMF, List.map_map]
        refine List.map_congr_left fun m _ => ?_
        simp only [Function.comp, MF.ent]
        split <;> rfl
      rw [e]
      exact Lib.hid Hgf.out
    clear hW5 Hml b1 f1 z1 hwl hbl hXl n0 hb hM4 hX hG0 hcl Hgf
    have b1 := hM5.blk.cell 1
    have f1 := hb5.cell 1
    have n0 := hX5.cell 0
    have hwl := hM5.blk.lt
    have hbl := hb5.lt
    have hXl := hX5.lt
    have hml := fun (w' : World) (hh : ∀ b, b < W5.heap.size → w'.heap[b]? = W5.heap[b]?) => hM5.files.keep (hh fb hM5.files.lt)
    have Hml := Lib.hid hml; clear hml
    have hnz : ((n' : Int) == 0) = decide (n' = 0) := by rw [Bool.eq_iff_iff]; simp
    have hcs : ∀ m ∈ setMF ms m0.g downCnt, m.cnt = namesC M.nodes m.id - if x.file = m.id then 1 else 0 := by
      intro m hm
      rw [Hgs.out] at hm
      obtain ⟨m1, q1, rfl⟩ := List.mem_map.1 hm
      by_cases e : m1.id = x.file
      · rw [if_pos e]
        show m1.cnt - 1 = (namesC M.nodes m1.id : Int) - (if x.file = m1.id then 1 else 0)
        rw [if_pos e.symm, HO.out.cnt m1 q1]
      · rw [if_neg e, if_neg (fun h => e h.symm), HO.out.cnt m1 q1]; simp
    have Hcs := Lib.hid hcs; clear hcs
    have hpf : (setMF ms m0.g downCnt).map MF.pf = M.files := by rw [setMF_pf _ _ downCnt fun m => rfl]; exact HO.out.mfs
    have Hpf := Lib.hid hpf; clear hpf
    by_cases hz : n' = 0
    · have hzt : ((n' : Int) == 0) = true := by rw [hnz, hz]; rfl
      clear hnz
      have Hz := Lib.hid hz; clear hz
      go_upto_region 5 with (fail)
      refine wp_region_ordB (none) [(0, true), (1, true), (2, true), (3, true), (4, true), (5, true), (6, true), (7, true), (8, true), (9, true), (10, true)] (by kernel_rfl) (by kernel_rfl) fun hG0 => ?_
      repeat (first
        | (refine ord_skipB rfl (by rfl) ?_; simp only [Act.put, List.setIfInBounds_toArray, List.set_cons_zero, List.set_cons_succ])
        | (refine ord_qH rfl (by rfl) (fun w' hh => exec_mv_look Try.mtFiles rfl rfl rfl (Hml.out w' fun b hb => hh b hb (by simp)) hok Hgf5.out) ?_; simp only [Act.put, List.setIfInBounds_toArray, List.set_cons_zero, List.set_cons_succ])
        | (refine ord_qE rfl (by rfl) ?_; apply Exists.intro; refine ⟨fun w' hc' => ?_, ?_⟩; (focus (go_simp; (try go_bits); (try simp only [↓IntWalk.iteOmega]); with_reducible rfl)); simp only [Act.put, List.setIfInBounds_toArray, List.set_cons_zero, List.set_cons_succ]))
      refine ord_end ?_
      have hM6 := hM5.keep hG0
      have hX6 := hX5.grown hG0 (by simp)
      replace hFr := hFr.trans (Fr.of_none hG0 hM5.size)
      go_upto_region 6 with (fail)
      obtain ⟨W6, hW6⟩ : ∃ W6, W6 = W5.drew := ⟨_, rfl⟩
      rw [← hW6] at hM6 hX6 hFr ⊢
      clear hW6 Hml hM5 hX5 hb5 b1 f1 n0 hwl hbl hXl hG0
      have b1 := hM6.blk.cell 1
      have n0 := hX6.cell 0
      have hwl := hM6.blk.lt
      have hXl := hX6.lt
      refine wp_region_ordG (none) [(0, true), (1, true), (2, true), (3, true), (4, true), (5, true)] 6 (by kernel_rfl) (by kernel_rfl) fun hG0 => ?_
      repeat (first
        | (refine ord_skipB rfl (by rfl) ?_; simp only [Act.put, List.setIfInBounds_toArray, List.set_cons_zero, List.set_cons_succ])
        | (refine ord_qE rfl (by rfl) ?_; apply Exists.intro; refine ⟨fun w' hc' => ?_, ?_⟩; (focus (go_simp; (try go_bits); (try simp only [↓IntWalk.iteOmega]); with_reducible rfl)); simp only [Act.put, List.setIfInBounds_toArray, List.set_cons_zero, List.set_cons_succ]))
      refine ord_tail rfl fun K hK => ?_
      go_wp2_with (refine wpList_mv_del rfl Try.mtFiles _ _ rfl rfl hM6.files (T := intK) (q := x.file) rfl hok ?_; intro w7 hm7 hg7 hs7)
      refine hK.out _ _ ?_
      clear hK K
      replace hg7 := grown_trans (grown_drew W6 (some fb)) hg7
      rw [msE_del] at hm7
      have hM7 := hM6.set_files hg7 hm7 (hM6.gs.sublist List.filter_sublist) (fun m hm => ⟨hM6.fblk m (List.mem_filter.1 hm).1, hM6.fdat m (List.mem_filter.1 hm).1, hM6.fnew m (List.mem_filter.1 hm).1⟩)
      replace hFr := hFr.trans (Fr.of_map hg7 hM6.files hM6.new.2.2.1 hM6.size)
      go_wp2
      refine bodyPost_ret (results_none rfl _ _ _) rfl ⟨⟨_, rfl⟩, ⟨nb, fb, kb, _, _, hM7, ?_⟩, hFr⟩
      have := Hpar.out
      subst this
      refine wok_take HO.out HA.out Hxm.out Hkn.out _ (by rw [Hkc.out]) _ ?_ (fun m hm => Hcs.out m (List.mem_filter.1 hm).1)
      rw [PW.take, if_pos ⟨by omega, by rw [Hnc3.out]; exact Hz.out⟩]
      simp only []
      rw [← Hpf.out, List.filter_map]
      rfl
    · have hzt : ((n' : Int) == 0) = false := by rw [hnz]; simp [hz]
      clear hnz
      have Hz := Lib.hid hz; clear hz
      go_upto_region 5 with (fail)
      refine wp_region_ordB (none) [(0, true), (1, true), (2, true), (3, true), (4, true), (5, true), (6, true), (7, true), (8, true), (9, true), (10, true)] (by kernel_rfl) (by kernel_rfl) fun hG0 => ?_
      repeat (first
        | (refine ord_skipB rfl (by rfl) ?_; simp only [Act.put, List.setIfInBounds_toArray, List.set_cons_zero, List.set_cons_succ])
        | (refine ord_qH rfl (by rfl) (fun w' hh => exec_mv_look Try.mtFiles rfl rfl rfl (Hml.out w' fun b hb => hh b hb (by simp)) hok Hgf5.out) ?_; simp only [Act.put, List.setIfInBounds_toArray, List.set_cons_zero, List.set_cons_succ])
        | (refine ord_qE rfl (by rfl) ?_; apply Exists.intro; refine ⟨fun w' hc' => ?_, ?_⟩; (focus (go_simp; (try go_bits); (try simp only [↓IntWalk.iteOmega]); with_reducible rfl)); simp only [Act.put, List.setIfInBounds_toArray, List.set_cons_zero, List.set_cons_succ]))
      refine ord_end ?_
      have hM6 := hM5.keep hG0
      replace hFr := hFr.trans (Fr.of_none hG0 hM5.size)
      go_wp2
      refine bodyPost_ret (results_none rfl _ _ _) rfl ⟨⟨_, rfl⟩, ⟨nb, fb, kb, _, _, hM6, ?_⟩, hFr⟩
      have := Hpar.out
      subst this
      refine wok_take HO.out HA.out Hxm.out Hkn.out _ (by rw [Hkc.out]) _ ?_ Hcs.out
      rw [PW.take, if_neg (fun h => Hz.out (by rw [← Hnc3.out]; exact h.2))]
      exact Hpf.out
end Go.Proofs.Ytanaccoelifcpaa

namespace Go.Proofs.Ytanaccoelifcpaa
open Go.RowKit

def PW.made (M : PW) (p : ByteArray) (hp : p.size ≤ 9223372036854775807) (mode : Int) (d : ByteArray) : PW :=
  { nodes := M.nodes ++ [⟨p, M.next, 0, hp⟩], files := M.files ++ [⟨M.next, mode, d⟩], next := M.next + 1 }
theorem msE_put {ms : List MF} {m : MF} (h : m.id ∉ ms.map (·.id)) : putV (msE ms) m.id (.pointer (some ⟨m.g, 0, none⟩)) = msE (ms ++ [m]) := by
  unfold putV
  rw [msE_keys, if_neg h]
  simp [msE, MF.ent]
set_option maxRecDepth 100000 in
set_option maxHeartbeats 2000000 in
theorem made_any (B0 wb : Nat) (M : PW) (s : Nat) (p : ByteArray) (hp : p.size ≤ 9223372036854775807) (mode : Int) (d : ByteArray) (A : Option Addr) (n c : Nat) (w : World) (h : WorldAt B0 w wb M s) (hd : d.size = n) (hS : Sl w B0 1 A n (bytesC d)) (hn : p ∉ M.nodes.map (·.path)) (hid : ∀ f ∈ M.files, 0 ≤ f.id ∧ f.id < M.next) (hnf : ∀ x ∈ M.nodes, x.file < M.next) (h0 : 0 ≤ M.next) (h1 : M.next ≤ 1000000) (hs : s ≤ 1000000) (hl : M.nodes.length ≤ 1000000) :
    Calls Try.prog 76 #[.pointer (some ⟨wb, 0, none⟩), .string p, .int .i64 mode, .slice A n c] w (PutRes B0 wb (M.made p hp mode d) (s + 1) w) := by
  obtain ⟨nb, fb, kb, ms, kl, hM, hO⟩ := h
  have HO := Lib.hid hO; clear hO
  have Hn := Lib.hid hn; clear hn
  have HidF := Lib.hid hid; clear hid
  have Hnf := Lib.hid hnf; clear hnf
  have HS := Lib.hid hS; clear hS
  have Hd := Lib.hid hd; clear hd
  have hBs := hM.size
  have hni : M.next ∉ ms.map (·.id) := by
    intro hm
    obtain ⟨m, hm, e⟩ := List.mem_map.1 hm
    obtain ⟨f, hf, e2⟩ := pf_of_mf HO.out hm
    have := HidF.out f hf
    omega
  have Hni := Lib.hid hni; clear hni
  have b1 := hM.blk.cell 1
  have b3 := hM.blk.cell 3
  have hwl := hM.blk.lt
  have hml : ms.length ≤ 1000000 := by
    have h1 : ms.length = M.files.length := by rw [← HO.out.mfs]; simp
    have hnd : (ms.map (·.id)).Nodup := by have := hM.files.1; rwa [msE_keys] at this
    have h2 : ((ms.map (·.id)).map Int.toNat).Nodup := by
      rw [List.Nodup, List.pairwise_map]
      refine hnd.imp_of_mem fun {a b} ha hb hne e => hne ?_
      obtain ⟨m, hm, rfl⟩ := List.mem_map.1 ha
      obtain ⟨m', hm', rfl⟩ := List.mem_map.1 hb
      obtain ⟨f, hf, e2⟩ := pf_of_mf HO.out hm
      obtain ⟨f', hf', e2'⟩ := pf_of_mf HO.out hm'
      have := HidF.out f hf
      have := HidF.out f' hf'
      omega
    have h3 : ∀ i ∈ (ms.map (·.id)).map Int.toNat, i < M.next.toNat := by
      intro i hi
      obtain ⟨a, ha, rfl⟩ := List.mem_map.1 hi
      obtain ⟨m, hm, rfl⟩ := List.mem_map.1 ha
      obtain ⟨f, hf, e2⟩ := pf_of_mf HO.out hm
      have := HidF.out f hf
      omega
    have h4 : ((ms.map (·.id)).map Int.toNat).length ≤ (List.range M.next.toNat).length :=
      List.Nodup.length_le_of_subset h2 fun i hi => List.mem_range.2 (h3 i hi)
    simp at h4
    omega
  go_enter Try.func76, Try.ntmps76
  go_upto_region 0 with (fail)
  refine wp_region_ordG (none) [(0, true), (1, true), (2, true), (3, true), (4, true), (5, true), (6, true), (7, true), (8, true), (9, true), (10, true), (11, false)] 12 (by kernel_rfl) (by kernel_rfl) fun hG0 => ?_
  repeat (first
    | (refine ord_skipB rfl (by rfl) ?_; simp only [Act.put, List.setIfInBounds_toArray, List.set_cons_zero, List.set_cons_succ])
    | (refine ord_qE rfl (by rfl) ?_; apply Exists.intro; refine ⟨fun w' hc' => ?_, ?_⟩; (focus (go_simp; (try go_bits); (try simp only [↓IntWalk.iteOmega]); with_reducible rfl)); simp only [Act.put, List.setIfInBounds_toArray, List.set_cons_zero, List.set_cons_succ]))
  refine ord_eB rfl fun K hK => ?_
  go_wp2_with (fail)
  have hG1 := grown_trans hG0 (World.grownBy_alloc w.drew (.cells #[.int .i64 mode, .int .i64 0, .slice A n c] 79) none)
  refine hK.out _ _ hG1 ?_
  clear hK K
  repeat (first
    | (refine ord_skipB rfl (by rfl) ?_; simp only [Act.put, List.setIfInBounds_toArray, List.set_cons_zero, List.set_cons_succ])
    | (refine ord_qE rfl (by rfl) ?_; apply Exists.intro; refine ⟨fun w' hc' => ?_, ?_⟩; (focus (go_simp; (try go_bits); (try simp only [↓IntWalk.iteOmega]); with_reducible rfl)); simp only [Act.put, List.setIfInBounds_toArray, List.set_cons_zero, List.set_cons_succ]))
  have hM1 := hM.keep hG1
  refine ord_tail rfl fun K hK => ?_
  go_wp2_with (refine wpList_mv_put rfl Try.mtFiles _ _ _ (.inl rfl) rfl hM1.files (T := intK) (q := M.next) rfl (wf_i64 (by omega) (by omega)) rfl (by simp [msE]; unfold maxLen; omega) ?_; intro w2 hm2 hg2 hs2)
  refine hK.out _ _ ?_
  clear hK K
  obtain ⟨W1, hW1⟩ : ∃ W1, W1 = (w.alloc (.cells #[.int .i64 mode, .int .i64 0, .slice A n c] 79)).drew := ⟨_, rfl⟩
  replace hM1 : WMem B0 W1 wb nb fb kb (nodesE M.nodes) ms kl M.next := by rw [hW1]; exact hM1
  have hnw : Blk W1 w.heap.size 79 #[.int .i64 mode, .int .i64 0, .slice A n c] := by rw [hW1]; exact Blk.new w _ _
  replace hg2 : W1.grownBy w2 (some fb) := by rw [hW1]; exact hg2
  have hFr : Fr B0 w W1 := by rw [hW1]; exact (Fr.alloc _ hBs).trans (Fr.of_none (grown_drew _ none) (by simp; omega))
  have hSz : W1.heap.size = w.heap.size + 1 := by rw [hW1]; simp
  clear hW1
  have hnw' : Blk W1 w.heap.size 79 #[.int .i64 mode, .int .i64 0, .slice A n c] := hnw
  have hM2 := hM1.set_files (ms' := ms ++ [⟨M.next, mode, 0, d, w.heap.size, A, n, c⟩]) hg2 (by rw [← msE_put Hni.out]; exact hm2)
    (by
      rw [List.pairwise_append]
      refine ⟨hM.gs, List.pairwise_singleton _ _, fun x hx y hy e => ?_⟩
      rw [List.mem_singleton.1 hy] at e
      have := (hM.fblk x hx).lt
      simp only at e
      omega)
    (fun m hm => by
      rcases List.mem_append.1 hm with hm | hm
      · exact ⟨hM1.fblk m hm, hM1.fdat m hm, hM1.fnew m hm⟩
      · rw [List.mem_singleton.1 hm]
        exact ⟨hnw', ⟨Hd.out, HS.out.below hFr.below (Nat.le_refl _)⟩, hBs⟩)
  replace hFr := hFr.trans (Fr.of_map hg2 hM1.files hM1.new.2.2.1 hM1.size)
  have hO2 : WOk { M with files := M.files ++ [⟨M.next, mode, d⟩], next := M.next + 1 } s (ms ++ [⟨M.next, mode, 0, d, w.heap.size, A, n, c⟩]) kl := by
    refine ⟨by simp [HO.out.mfs, MF.pf], fun m hm => ?_, HO.out.kid, HO.out.kmax⟩
    rcases List.mem_append.1 hm with hm | hm
    · exact HO.out.cnt m hm
    · rw [List.mem_singleton.1 hm]
      have : namesC M.nodes M.next = 0 := by
        rw [namesC, List.countP_eq_zero]
        intro x hx
        have := Hnf.out x hx
        simp; omega
      simp [this]
  have HO2 := Lib.hid hO2
  clear hO2 b1 b3 hwl hml hG0 hG1 hm2 hg2 hs2 hnw hnw' hM1 hM
  have b3 := hM2.blk.cell 3
  have z3 := hM2.blk.frozen 3
  go_upto_region 2 with (fail)
  have hM3 := hM2.set_next (M.next + 1)
  replace hFr := hFr.trans (Fr.setCell (i := 3) hM2.blk (.inl rfl) hM2.new.1 (.int .i64 (M.next + 1)))
  obtain ⟨W3, hW3⟩ : ∃ W3, W3 = w2.setCell ⟨wb, 3, none⟩ (.int .i64 (M.next + 1)) := ⟨_, rfl⟩
  rw [← hW3] at hM3 hFr ⊢
  clear hW3 b3 z3 hM2
  have b3 := hM3.blk.cell 3
  have hWA : WorldAt B0 W3 wb { M with files := M.files ++ [⟨M.next, mode, d⟩], next := M.next + 1 } s := ⟨nb, fb, kb, _, kl, hM3, HO2.out⟩
  have HWA := Lib.hid hWA; clear hWA
  go_wp2_with (go_at_call 39; refine (put_any B0 wb { M with files := M.files ++ [⟨M.next, mode, d⟩], next := M.next + 1 } s ⟨p, M.next, 0, hp⟩ _ HWA.out Hn.out (by
    intro f hf
    rcases List.mem_append.1 hf with hf | hf
    · exact (HidF.out f hf).1
    · rw [List.mem_singleton.1 hf]; exact h0) (.inr (by simp)) ⟨by show _ ≤ M.next; omega, by show M.next ≤ _; omega⟩ hs hl).mono ?_; rintro e w5 ⟨⟨v, rfl⟩, hw5, hf5⟩)
  refine bodyPost_ret (results_none rfl _ _ _) rfl ⟨⟨_, rfl⟩, hw5, hFr.trans hf5⟩
end Go.Proofs.Ytanaccoelifcpaa

namespace Go.Proofs.Ytanaccoelifcpaa
open Go.RowKit

theorem vrun_ascii : ∀ (l : List UInt8) (names : Nat) (last : List UInt8), vrun l names last = true → ∀ c ∈ l, c.toNat = 47 ∨ okc c = true
  | [], _, _, _, c, h => by cases h
  | a :: t, names, last, h, c, hc => by
    rw [vrun] at h
    split at h
    · rename_i h47
      split at h
      · cases h
      · rcases List.mem_cons.1 hc with rfl | hc
        · exact .inl h47
        · exact vrun_ascii t _ _ h c hc
    · split at h
      · rename_i ho
        split at h
        · cases h
        · rcases List.mem_cons.1 hc with rfl | hc
          · exact .inr ho
          · exact vrun_ascii t _ _ h c hc
      · cases h
theorem okc_lt {c : UInt8} (h : okc c = true) : c.toNat < 128 := by simp [okc] at h; omega
theorem valid_ascii {p : ByteArray} (h : validL p.data.toList = true) {i : Nat} (hi : i < p.size) : (p[i]'hi).toNat < 128 := by
  rcases vrun_ascii _ _ _ h (p[i]'hi) (by show p.data[i] ∈ p.data.toList; simp) with h | h
  · omega
  · exact okc_lt h
/-- The error of the directories above a path, from a place on. -/
def lookGo (l : List Node) (p : ByteArray) : Nat → Nat → Int
  | 0, _ => 0
  | n + 1, pos => if p.data.toList[pos]? = some 47 then (match nodeAt l (p.extract 0 pos) with
      | none => 21
      | some x => if 0 ≤ x.file then 22 else lookGo l p n (pos + 1)) else lookGo l p n (pos + 1)
def lookE (l : List Node) (p : ByteArray) : Int := lookGo l p p.size 0
def lookF (l : List Node) (p : ByteArray) : Int := if lookE l p = 0 then ((nodeAt l p).map (·.file)).getD 0 else 0
def lookM (l : List Node) (p : ByteArray) : Int := if lookE l p = 0 then ((nodeAt l p).map (·.mode)).getD 0 else 0
def lookT (l : List Node) (p : ByteArray) : Bool := decide (lookE l p = 0) && (nodeAt l p).isSome
def LookRes (l : List Node) (p : ByteArray) (w : World) (e : Ending) (w' : World) : Prop := e = .returned (.tuple #[.agg #[.int .i64 (lookF l p), .int .i64 (lookM l p)], .bool (lookT l p), .int .i64 (lookE l p)]) ∧ Below w.heap.size w w'
theorem look_err {l : List Node} {p : ByteArray} (h : lookE l p ≠ 0) : lookF l p = 0 ∧ lookM l p = 0 ∧ lookT l p = false := by simp [lookF, lookM, lookT, h]
def LookAt (l : List Node) (p : ByteArray) (w wr : World) : Prop := ∃ pos, pos ≤ p.size ∧ lookGo l p (p.size - pos) pos = lookE l p ∧ wr.heap[w.heap.size + 1]? = some (.stringIter p pos) ∧ Blk wr w.heap.size 75 #[.int .i64 0, .int .i64 0] ∧ Below w.heap.size w wr
theorem iterPos_of {w : World} {k : Nat} {s : ByteArray} {pos : Nat} (h : w.heap[k]? = some (.stringIter s pos)) : w.iterPos k = pos := by simp [World.iterPos, h]
set_option maxRecDepth 100000 in
set_option maxHeartbeats 2000000 in
theorem look_any (B0 wb : Nat) (M : PW) (s : Nat) (p : ByteArray) (hp : p.size ≤ 9223372036854775807) (hv : validL p.data.toList = true) (w : World) (h : WorldAt B0 w wb M s) :
    Calls Try.prog 77 #[.pointer (some ⟨wb, 0, none⟩), .string p] w (LookRes M.nodes p w) := by
  obtain ⟨nb, fb, kb, ms, kl, hM, _⟩ := h
  have Hv := Lib.hid hv; clear hv
  go_enter Try.func77, Try.ntmps77
  go_wp2
  have h0 : LookAt M.nodes p w ((w.alloc (.cells #[.int .i64 0, .int .i64 0] 75)).iter p 0) := by
    refine ⟨0, Nat.zero_le _, rfl, ?_, (Blk.new _ _ _).alloc _, ((Below.refl _ _).alloc (Nat.le_refl _) _).alloc (by simp) _⟩
    have := World.iter_heap (w.alloc (.cells #[.int .i64 0, .int .i64 0] 75)) p 0
    rwa [World.size_alloc] at this
  have H0 := Lib.hid h0; clear h0
  go_loopw [7] (fun _ wr => LookAt M.nodes p w wr) (fun _ wr => p.size - wr.iterPos (w.heap.size + 1))
  case atStart => exact H0.out
  case round =>
    clear H0
    obtain ⟨pos, hpos, hE, hit, hB, hb⟩ := hrel
    replace hE := Lib.hid hE
    have hwsz := hb.size
    have hitlt : w.heap.size + 1 < wr.heap.size := (Array.getElem?_eq_some_iff.1 hit).1
    by_cases hlt : pos < p.size
    · have ha := valid_ascii Hv.out hlt
      have hcd : p.data.toList[pos]? = some (p[pos]'hlt) := by
        rw [List.getElem?_eq_getElem (by simpa using hlt)]; rfl
      obtain ⟨c, hc⟩ : ∃ c, p[pos]'hlt = c := ⟨_, rfl⟩
      rw [hc] at ha hcd
      have hnx := fun ty => Lib.run_next_ascii_at (P := Try.prog) wr (w.heap.size + 1) p pos ty hit hlt (by rw [hc]; exact ha)
      rw [hc] at hnx
      have hit1 := Lib.iterAt_heap wr (w.heap.size + 1) p pos (pos + 1) hit
      have hB1 : Blk (wr.iterAt (w.heap.size + 1) p (pos + 1)) w.heap.size 75 #[.int .i64 0, .int .i64 0] := hB.keep (Lib.iterAt_other wr _ _ p _ (by omega))
      have hb1 := Lib.below_iterAt hb (k := w.heap.size + 1) (Nat.le_succ _) p (pos + 1)
      obtain ⟨W1, hW1⟩ : ∃ W1, W1 = wr.iterAt (w.heap.size + 1) p (pos + 1) := ⟨_, rfl⟩
      rw [← hW1] at hnx hit1 hB1 hb1
      obtain ⟨n, hn⟩ : ∃ n, p.size - pos = n + 1 := ⟨p.size - pos - 1, by omega⟩
      have hn2 : p.size - (pos + 1) = n := by omega
      have hgo := hE.out
      rw [hn, lookGo, hcd] at hgo
      have Hit1 := Lib.hid hit1
      have Hit := Lib.hid (iterPos_of hit)
      have Hhit := Lib.hid hit
      clear hW1 hcd hit1 hit
      by_cases h47 : c.toNat = 47
      · have t47 : ((c.toNat : Int) != 47) = false := by simp; omega
        rw [if_pos (by congr 1; exact UInt8.toNat_inj.1 h47)] at hgo
        obtain ⟨q, hq⟩ : ∃ q, p.extract 0 pos = q := ⟨_, rfl⟩
        have hqz : q.size ≤ 9223372036854775807 := by rw [← hq, ByteArray.size_extract]; omega
        have hqz2 : strK.ok q := hqz
        have hM1 := hM.keep (grown_below hb1 (Nat.le_refl _))
        replace h47 := Lib.hid h47
        rw [hq] at hgo
        have b0 := hM1.blk.cell 0
        have hwl := hM1.blk.lt
        have Hq := Lib.hid hq
        cases hnd : nodeAt M.nodes q with
        | none =>
          rw [hnd] at hgo
          simp only at hgo
          have hg1 : (getV (nodesE M.nodes) q).getD (.agg #[.int .i64 0, .int .i64 0]) = .agg #[.int .i64 0, .int .i64 0] := by rw [nodesE_get, hnd]; rfl
          have hg2 : (getV (nodesE M.nodes) q).isSome = false := by rw [nodesE_get, hnd]; rfl
          have Hg1 := Lib.hid hg1; have Hg2 := Lib.hid hg2
          have Hgo := Lib.hid hgo
          clear hg1 hg2 hgo hnd
          go_upto_region 5 with (fail)
          have hml := fun (w' : World) (hh : ∀ b, b < W1.heap.size → w'.heap[b]? = W1.heap[b]?) => hM1.nodes.keep (hh nb hM1.nodes.lt)
          have Hml := Lib.hid hml; clear hml
          refine wp_region_ordB (none) [(0, true), (1, true), (2, true), (3, true), (4, true), (5, true), (6, true), (7, true), (8, true), (9, true), (10, true), (11, false), (12, false), (13, true)] (by kernel_rfl) (by kernel_rfl) fun hG0 => ?_
          repeat (first
            | (refine ord_skipB rfl (by rfl) ?_; simp only [Act.put, List.setIfInBounds_toArray, List.set_cons_zero, List.set_cons_succ])
            | (refine ord_qH rfl (by rfl) (fun w' hh => exec_mv_ok Try.mtNodes rfl rfl rfl (Hml.out w' fun b hb => hh b hb (by simp)) hqz2 Hg1.out Hg2.out) ?_; simp only [Act.put, List.setIfInBounds_toArray, List.set_cons_zero, List.set_cons_succ])
            | (refine ord_qE rfl (by rfl) ?_; apply Exists.intro; refine ⟨fun w' hc' => ?_, ?_⟩; (focus (go_simp; (try go_bits); (try simp only [↓IntWalk.iteOmega]); with_reducible rfl)); simp only [Act.put, List.setIfInBounds_toArray, List.set_cons_zero, List.set_cons_succ]))
          refine ord_eB rfl fun K hK => ?_
          go_wp2_with (fail)
          have hG1 := grown_trans hG0 (World.grownBy_alloc W1.drew (.cells #[.int .i64 0, .int .i64 0] 75) none)
          refine hK.out _ _ hG1 ?_
          clear hK K
          repeat (first
            | (refine ord_skipB rfl (by rfl) ?_; simp only [Act.put, List.setIfInBounds_toArray, List.set_cons_zero, List.set_cons_succ])
            | (refine ord_qH rfl (by rfl) (fun w' hh => exec_mv_ok Try.mtNodes rfl rfl rfl (Hml.out w' fun b hb => hh b hb (by simp)) hqz2 Hg1.out Hg2.out) ?_; simp only [Act.put, List.setIfInBounds_toArray, List.set_cons_zero, List.set_cons_succ])
            | (refine ord_qE rfl (by rfl) ?_; apply Exists.intro; refine ⟨fun w' hc' => ?_, ?_⟩; (focus (go_simp; (try go_bits); (try simp only [↓IntWalk.iteOmega]); with_reducible rfl)); simp only [Act.put, List.setIfInBounds_toArray, List.set_cons_zero, List.set_cons_succ]))
          refine ord_eB rfl fun K hK => ?_
          go_wp2_with (fail)
          have hG2 := grown_trans hG0 (World.grownBy_alloc W1.drew (.cells #[.int .i64 0, .int .i64 0] 75) none)
          refine hK.out _ _ hG2 ?_
          clear hK K
          repeat (first
            | (refine ord_skipB rfl (by rfl) ?_; simp only [Act.put, List.setIfInBounds_toArray, List.set_cons_zero, List.set_cons_succ])
            | (refine ord_qH rfl (by rfl) (fun w' hh => exec_mv_ok Try.mtNodes rfl rfl rfl (Hml.out w' fun b hb => hh b hb (by simp)) hqz2 Hg1.out Hg2.out) ?_; simp only [Act.put, List.setIfInBounds_toArray, List.set_cons_zero, List.set_cons_succ])
            | (refine ord_qE rfl (by rfl) ?_; apply Exists.intro; refine ⟨fun w' hc' => ?_, ?_⟩; (focus (go_simp; (try go_bits); (try simp only [↓IntWalk.iteOmega]); with_reducible rfl)); simp only [Act.put, List.setIfInBounds_toArray, List.set_cons_zero, List.set_cons_succ]))
          refine ord_end ?_
          have hB2 := hB1.grown hG2 (by simp)
          replace hb1 := hb1.trans (below_grown hG2 (hb1.size) (fun g e => by cases e))
          go_wp2_with (refine wpList_store_blk rfl _ _ _ rfl hB2 #[.int .i64 0, .int .i64 0] rfl rfl (by kernel_rfl) (by kernel_rfl) (by kernel_rfl) ?_; intro w5 hB5 hg5 hs5)
          refine ret_cell_tt rfl rfl (load_blk hB5 Try.underlying75 rfl (by kernel_rfl)) rfl ⟨?_, hb1.trans (below_grown hg5 hb1.size (fun g e => by injection e with e; omega))⟩
          obtain ⟨l1, l2, l3⟩ := look_err (l := M.nodes) (p := p) (by rw [← Hgo.out]; decide)
          rw [l1, l2, l3, ← Hgo.out]
          rfl
        | some x =>
          rw [hnd] at hgo
          simp only at hgo
          have hg1 : (getV (nodesE M.nodes) q).getD (.agg #[.int .i64 0, .int .i64 0]) = .agg #[.int .i64 x.file, .int .i64 x.mode] := by rw [nodesE_get, hnd]; rfl
          have hg2 : (getV (nodesE M.nodes) q).isSome = true := by rw [nodesE_get, hnd]; rfl
          have Hg1 := Lib.hid hg1; have Hg2 := Lib.hid hg2
          clear hg1 hg2 hnd
          replace hgo := Lib.hid hgo
          go_upto_region 5 with (fail)
          have hml := fun (w' : World) (hh : ∀ b, b < W1.heap.size → w'.heap[b]? = W1.heap[b]?) => hM1.nodes.keep (hh nb hM1.nodes.lt)
          have Hml := Lib.hid hml; clear hml
          refine wp_region_ordB (none) [(0, true), (1, true), (2, true), (3, true), (4, true), (5, true), (6, true), (7, true), (8, true), (9, true), (10, true), (11, false), (12, false), (13, true)] (by kernel_rfl) (by kernel_rfl) fun hG0 => ?_
          repeat (first
            | (refine ord_skipB rfl (by rfl) ?_; simp only [Act.put, List.setIfInBounds_toArray, List.set_cons_zero, List.set_cons_succ])
            | (refine ord_qH rfl (by rfl) (fun w' hh => exec_mv_ok Try.mtNodes rfl rfl rfl (Hml.out w' fun b hb => hh b hb (by simp)) hqz2 Hg1.out Hg2.out) ?_; simp only [Act.put, List.setIfInBounds_toArray, List.set_cons_zero, List.set_cons_succ])
            | (refine ord_qE rfl (by rfl) ?_; apply Exists.intro; refine ⟨fun w' hc' => ?_, ?_⟩; (focus (go_simp; (try go_bits); (try simp only [↓IntWalk.iteOmega]); with_reducible rfl)); simp only [Act.put, List.setIfInBounds_toArray, List.set_cons_zero, List.set_cons_succ]))
          refine ord_eB rfl fun K hK => ?_
          go_wp2_with (fail)
          have hG1 := grown_trans hG0 (World.grownBy_alloc W1.drew (.cells #[.int .i64 0, .int .i64 0] 75) none)
          refine hK.out _ _ hG1 ?_
          clear hK K
          repeat (first
            | (refine ord_skipB rfl (by rfl) ?_; simp only [Act.put, List.setIfInBounds_toArray, List.set_cons_zero, List.set_cons_succ])
            | (refine ord_qH rfl (by rfl) (fun w' hh => exec_mv_ok Try.mtNodes rfl rfl rfl (Hml.out w' fun b hb => hh b hb (by simp)) hqz2 Hg1.out Hg2.out) ?_; simp only [Act.put, List.setIfInBounds_toArray, List.set_cons_zero, List.set_cons_succ])
            | (refine ord_qE rfl (by rfl) ?_; apply Exists.intro; refine ⟨fun w' hc' => ?_, ?_⟩; (focus (go_simp; (try go_bits); (try simp only [↓IntWalk.iteOmega]); with_reducible rfl)); simp only [Act.put, List.setIfInBounds_toArray, List.set_cons_zero, List.set_cons_succ]))
          refine ord_eB rfl fun K hK => ?_
          go_wp2_with (fail)
          have hG2 := grown_trans hG0 (World.grownBy_alloc W1.drew (.cells #[.int .i64 x.file, .int .i64 x.mode] 75) none)
          refine hK.out _ _ hG2 ?_
          clear hK K
          repeat (first
            | (refine ord_skipB rfl (by rfl) ?_; simp only [Act.put, List.setIfInBounds_toArray, List.set_cons_zero, List.set_cons_succ])
            | (refine ord_qH rfl (by rfl) (fun w' hh => exec_mv_ok Try.mtNodes rfl rfl rfl (Hml.out w' fun b hb => hh b hb (by simp)) hqz2 Hg1.out Hg2.out) ?_; simp only [Act.put, List.setIfInBounds_toArray, List.set_cons_zero, List.set_cons_succ])
            | (refine ord_qE rfl (by rfl) ?_; apply Exists.intro; refine ⟨fun w' hc' => ?_, ?_⟩; (focus (go_simp; (try go_bits); (try simp only [↓IntWalk.iteOmega]); with_reducible rfl)); simp only [Act.put, List.setIfInBounds_toArray, List.set_cons_zero, List.set_cons_succ]))
          refine ord_end ?_
          have hB2 := hB1.grown hG2 (by simp)
          have hX := Blk.new W1.drew 75 #[.int .i64 x.file, .int .i64 x.mode]
          have x0 := hX.cell 0
          have hi2 : (W1.drew.alloc (.cells #[.int .i64 x.file, .int .i64 x.mode] 75)).heap[w.heap.size + 1]? = some (.stringIter p (pos + 1)) := (hG2.block (w.heap.size + 1) (Array.getElem?_eq_some_iff.1 Hit1.out).1 (by simp)).trans Hit1.out
          replace hb1 := hb1.trans (below_grown hG2 (hb1.size) (fun g e => by cases e))
          have Hi2 := Lib.hid hi2; clear hi2
          by_cases h0 : 0 ≤ x.file
          · have hgo2 := hgo.out
            rw [if_pos h0] at hgo2
            have Hgo := Lib.hid hgo2; clear hgo2 hgo
            go_wp2_with (refine wpList_store_blk rfl _ _ _ rfl hB2 #[.int .i64 0, .int .i64 0] rfl rfl (by kernel_rfl) (by kernel_rfl) (by kernel_rfl) ?_; intro w5 hB5 hg5 hs5)
            refine ret_cell_tt rfl rfl (load_blk hB5 Try.underlying75 rfl (by kernel_rfl)) rfl ⟨?_, hb1.trans (below_grown hg5 hb1.size (fun g e => by injection e with e; omega))⟩
            obtain ⟨l1, l2, l3⟩ := look_err (l := M.nodes) (p := p) (by rw [← Hgo.out]; decide)
            rw [l1, l2, l3, ← Hgo.out]
            rfl
          · have hgo2 := hgo.out
            rw [if_neg h0] at hgo2
            have Hgo := Lib.hid hgo2; clear hgo2 hgo
            go_wp2
            go_roundw
            case rel => exact ⟨pos + 1, by omega, by rw [hn2]; exact Hgo.out, Hi2.out, hB2, hb1⟩
            case measure => exact Nat.lt_of_le_of_lt (Nat.le_of_eq (congrArg (p.size - ·) (iterPos_of Hi2.out))) (by rw [Hit.out]; omega)
      · have t47 : ((c.toNat : Int) != 47) = true := by simp; omega
        rw [if_neg (fun e => h47 (by injection e with e; rw [e]; rfl))] at hgo
        replace h47 := Lib.hid h47
        have Hgo := Lib.hid hgo; clear hgo
        go_wp2
        go_roundw
        case rel => exact ⟨pos + 1, by omega, by rw [hn2]; exact Hgo.out, Hit1.out, hB1, hb1⟩
        case measure => rw [iterPos_of Hit1.out, Hit.out]; omega
    · have hpe : pos = p.size := by omega
      subst hpe
      have hE0 : lookE M.nodes p = 0 := by rw [← hE.out]; simp [lookGo]
      have hnx := fun ty => Lib.run_next_end_at (P := Try.prog) wr (w.heap.size + 1) p p.size ty hit (by omega)
      have hM1 := hM.keep (grown_below hb (Nat.le_refl _))
      have b0 := hM1.blk.cell 0
      have hfr : lookF M.nodes p = ((nodeAt M.nodes p).map (·.file)).getD 0 ∧ lookM M.nodes p = ((nodeAt M.nodes p).map (·.mode)).getD 0 ∧ lookT M.nodes p = (nodeAt M.nodes p).isSome := by simp [lookF, lookM, lookT, hE0]
      obtain ⟨f, hf⟩ : ∃ f, lookF M.nodes p = f := ⟨_, rfl⟩
      obtain ⟨m, hm⟩ : ∃ m, lookM M.nodes p = m := ⟨_, rfl⟩
      obtain ⟨t, ht⟩ : ∃ t, lookT M.nodes p = t := ⟨_, rfl⟩
      have hg1 : (getV (nodesE M.nodes) p).getD (.agg #[.int .i64 0, .int .i64 0]) = .agg #[.int .i64 f, .int .i64 m] := by
        rw [nodesE_get, ← hf, ← hm, hfr.1, hfr.2.1]
        cases nodeAt M.nodes p <;> rfl
      have hg2 : (getV (nodesE M.nodes) p).isSome = t := by
        rw [nodesE_get, ← ht, hfr.2.2]
        cases nodeAt M.nodes p <;> rfl
      have Hf := Lib.hid hf; have Hm := Lib.hid hm; have Ht := Lib.hid ht; have HE0 := Lib.hid hE0
      have Hg1 := Lib.hid hg1; have Hg2 := Lib.hid hg2
      have Hhit := Lib.hid hit
      clear hf hm ht hfr hE0 hg1 hg2 hit hE
      go_upto_region 11 with (refine wpList_mv_ok rfl Try.mtNodes _ _ rfl rfl hM1.nodes (T := strK) (q := p) rfl hp Hg1.out Hg2.out ?_)
      have hB2 := hB.alloc (.cells #[.int .i64 f, .int .i64 m] 75)
      have hX := Blk.new wr 75 #[.int .i64 f, .int .i64 m]
      replace hb := hb.alloc (by omega) (.cells #[.int .i64 f, .int .i64 m] 75)
      have x0 := hX.cell 0
      have x1 := hX.cell 1
      go_wp2_with (refine wpList_store_blk rfl _ _ _ rfl hB2 #[.int .i64 f, .int .i64 m] rfl rfl (by kernel_rfl) (by kernel_rfl) (by kernel_rfl) ?_; intro w5 hB5 hg5 hs5)
      refine ret_cell_tt rfl rfl (load_blk hB5 Try.underlying75 rfl (by kernel_rfl)) rfl ⟨?_, hb.trans (below_grown hg5 hb.size (fun g e => by injection e with e; omega))⟩
      rw [Hf.out, Hm.out, Ht.out, HE0.out]
      rfl
end Go.Proofs.Ytanaccoelifcpaa
