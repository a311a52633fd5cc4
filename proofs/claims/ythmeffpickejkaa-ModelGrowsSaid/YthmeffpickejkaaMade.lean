/- model.made: a new file at a path. -/
import Derived.Test.YthmeffpickejkaaTake
namespace Go.Proofs.Ythmeffpickejkaa
open Go.RowKit

def PW.made (M : PW) (p : ByteArray) (hp : p.size ≤ 9223372036854775807) (mode : Int) (d : ByteArray) : PW :=
  { nodes := M.nodes ++ [⟨p, M.next, 0, hp⟩], files := M.files ++ [⟨M.next, mode, d⟩], next := M.next + 1 }
theorem msE_put {ms : List MF} {m : MF} (h : m.id ∉ ms.map (·.id)) : putV (msE ms) m.id (.pointer (some ⟨m.g, 0, none⟩)) = msE (ms ++ [m]) := by
  unfold putV
  rw [msE_keys, if_neg h]
  simp [msE, MF.ent]
set_option maxRecDepth 100000 in
set_option maxHeartbeats 2000000 in
theorem made_any (B0 wb : Nat) (M : PW) (s : Nat) (p : ByteArray) (hp : p.size ≤ 9223372036854775807) (mode : Int) (d : ByteArray) (A : Option Addr) (n c : Nat) (w : World) (h : WorldAt B0 w wb M s) (hd : d.size = n) (hS : Sl w B0 1 A n (bytesC d)) (hn : p ∉ M.nodes.map (·.path)) (hid : ∀ f ∈ M.files, 0 ≤ f.id ∧ f.id < M.next) (hnf : ∀ x ∈ M.nodes, x.file < M.next) (h0 : 0 ≤ M.next) (h1 : M.next ≤ 1000000) (hs : s ≤ 1000000) (hl : M.nodes.length ≤ 1000000) :
    Calls Try.prog 96 #[.pointer (some ⟨wb, 0, none⟩), .string p, .int .i64 mode, .slice A n c] w (PutRes B0 wb (M.made p hp mode d) (s + 1) w) := by
  obtain ⟨nb, fb, kb, ms, kl, hM, hO⟩ := h
  have HO := Lib.hid hO; clear hO
  have Hn := Lib.hid hn; clear hn
  have HidF := Lib.hid hid; clear hid
  have Hnf := Lib.hid hnf; clear hnf
  have HS := Lib.hid hS; clear hS
  have Hd := Lib.hid hd; clear hd
  have hBs := hM.size
  have hni : M.next ∉ ms.map (·.id) := by
    intro hm
    obtain ⟨m, hm, e⟩ := List.mem_map.1 hm
    obtain ⟨f, hf, e2⟩ := pf_of_mf HO.out hm
    have := HidF.out f hf
    omega
  have Hni := Lib.hid hni; clear hni
  have b1 := hM.blk.cell 1
  have b3 := hM.blk.cell 3
  have hwl := hM.blk.lt
  have hml : ms.length ≤ 1000000 := by
    have h1 : ms.length = M.files.length := by rw [← HO.out.mfs]; simp
    have hnd : (ms.map (·.id)).Nodup := by have := hM.files.1; rwa [msE_keys] at this
    have h2 : ((ms.map (·.id)).map Int.toNat).Nodup := by
      rw [List.Nodup, List.pairwise_map]
      refine hnd.imp_of_mem fun {a b} ha hb hne e => hne ?_
      obtain ⟨m, hm, rfl⟩ := List.mem_map.1 ha
      obtain ⟨m', hm', rfl⟩ := List.mem_map.1 hb
      obtain ⟨f, hf, e2⟩ := pf_of_mf HO.out hm
      obtain ⟨f', hf', e2'⟩ := pf_of_mf HO.out hm'
      have := HidF.out f hf
      have := HidF.out f' hf'
      omega
    have h3 : ∀ i ∈ (ms.map (·.id)).map Int.toNat, i < M.next.toNat := by
      intro i hi
      obtain ⟨a, ha, rfl⟩ := List.mem_map.1 hi
      obtain ⟨m, hm, rfl⟩ := List.mem_map.1 ha
      obtain ⟨f, hf, e2⟩ := pf_of_mf HO.out hm
      have := HidF.out f hf
      omega
    have h4 : ((ms.map (·.id)).map Int.toNat).length ≤ (List.range M.next.toNat).length :=
      List.Nodup.length_le_of_subset h2 fun i hi => List.mem_range.2 (h3 i hi)
    simp at h4
    omega
  go_enter Try.func96, Try.ntmps96
  go_upto_region 0 with (fail)
  refine wp_region_ordG (none) [(0, true), (1, true), (2, true), (3, true), (4, true), (5, true), (6, true), (7, true), (8, true), (9, true), (10, true), (11, false)] 12 (by kernel_rfl) (by kernel_rfl) fun hG0 => ?_
  repeat (first
    | (refine ord_skipB rfl (by rfl) ?_; simp only [Act.put, List.setIfInBounds_toArray, List.set_cons_zero, List.set_cons_succ])
    | (refine ord_qE rfl (by rfl) ?_; apply Exists.intro; refine ⟨fun w' hc' => ?_, ?_⟩; (focus (go_simp; (try go_bits); (try simp only [↓IntWalk.iteOmega]); with_reducible rfl)); simp only [Act.put, List.setIfInBounds_toArray, List.set_cons_zero, List.set_cons_succ]))
  refine ord_eB rfl fun K hK => ?_
  go_wp2_with (fail)
  have hG1 := grown_trans hG0 (World.grownBy_alloc w.drew (.cells #[.int .i64 mode, .int .i64 0, .slice A n c] 105) none)
  refine hK.out _ _ hG1 ?_
  clear hK K
  repeat (first
    | (refine ord_skipB rfl (by rfl) ?_; simp only [Act.put, List.setIfInBounds_toArray, List.set_cons_zero, List.set_cons_succ])
    | (refine ord_qE rfl (by rfl) ?_; apply Exists.intro; refine ⟨fun w' hc' => ?_, ?_⟩; (focus (go_simp; (try go_bits); (try simp only [↓IntWalk.iteOmega]); with_reducible rfl)); simp only [Act.put, List.setIfInBounds_toArray, List.set_cons_zero, List.set_cons_succ]))
  have hM1 := hM.keep hG1
  refine ord_tail rfl fun K hK => ?_
  go_wp2_with (refine wpList_mv_put rfl Try.mtFiles _ _ _ (.inl rfl) rfl hM1.files (T := intK) (q := M.next) rfl (wf_i64 (by omega) (by omega)) rfl (by simp [msE]; unfold maxLen; omega) ?_; intro w2 hm2 hg2 hs2)
  refine hK.out _ _ ?_
  clear hK K
  obtain ⟨W1, hW1⟩ : ∃ W1, W1 = (w.alloc (.cells #[.int .i64 mode, .int .i64 0, .slice A n c] 105)).drew := ⟨_, rfl⟩
  replace hM1 : WMem B0 W1 wb nb fb kb (nodesE M.nodes) ms kl M.next := by rw [hW1]; exact hM1
  have hnw : Blk W1 w.heap.size 105 #[.int .i64 mode, .int .i64 0, .slice A n c] := by rw [hW1]; exact Blk.new w _ _
  replace hg2 : W1.grownBy w2 (some fb) := by rw [hW1]; exact hg2
  have hFr : Fr B0 w W1 := by rw [hW1]; exact (Fr.alloc _ hBs).trans (Fr.of_none (grown_drew _ none) (by simp; omega))
  have hSz : W1.heap.size = w.heap.size + 1 := by rw [hW1]; simp
  clear hW1
  have hnw' : Blk W1 w.heap.size 105 #[.int .i64 mode, .int .i64 0, .slice A n c] := hnw
  have hM2 := hM1.set_files (ms' := ms ++ [⟨M.next, mode, 0, d, w.heap.size, A, n, c⟩]) hg2 (by rw [← msE_put Hni.out]; exact hm2)
    (by
      rw [List.pairwise_append]
      refine ⟨hM.gs, List.pairwise_singleton _ _, fun x hx y hy e => ?_⟩
      rw [List.mem_singleton.1 hy] at e
      have := (hM.fblk x hx).lt
      simp only at e
      omega)
    (fun m hm => by
      rcases List.mem_append.1 hm with hm | hm
      · exact ⟨hM1.fblk m hm, hM1.fdat m hm, hM1.fnew m hm⟩
      · rw [List.mem_singleton.1 hm]
        exact ⟨hnw', ⟨Hd.out, HS.out.below hFr.below (Nat.le_refl _)⟩, hBs⟩)
  replace hFr := hFr.trans (Fr.of_map hg2 hM1.files hM1.new.2.2.1 hM1.size)
  have hO2 : WOk { M with files := M.files ++ [⟨M.next, mode, d⟩], next := M.next + 1 } s (ms ++ [⟨M.next, mode, 0, d, w.heap.size, A, n, c⟩]) kl := by
    refine ⟨by simp [HO.out.mfs, MF.pf], fun m hm => ?_, HO.out.kid, HO.out.kmax⟩
    rcases List.mem_append.1 hm with hm | hm
    · exact HO.out.cnt m hm
    · rw [List.mem_singleton.1 hm]
      have : namesC M.nodes M.next = 0 := by
        rw [namesC, List.countP_eq_zero]
        intro x hx
        have := Hnf.out x hx
        simp; omega
      simp [this]
  have HO2 := Lib.hid hO2
  clear hO2 b1 b3 hwl hml hG0 hG1 hm2 hg2 hs2 hnw hnw' hM1 hM
  have b3 := hM2.blk.cell 3
  have z3 := hM2.blk.frozen 3
  go_upto_region 2 with (fail)
  have hM3 := hM2.set_next (M.next + 1)
  replace hFr := hFr.trans (Fr.setCell (i := 3) hM2.blk (.inl rfl) hM2.new.1 (.int .i64 (M.next + 1)))
  obtain ⟨W3, hW3⟩ : ∃ W3, W3 = w2.setCell ⟨wb, 3, none⟩ (.int .i64 (M.next + 1)) := ⟨_, rfl⟩
  rw [← hW3] at hM3 hFr ⊢
  clear hW3 b3 z3 hM2
  have b3 := hM3.blk.cell 3
  have hWA : WorldAt B0 W3 wb { M with files := M.files ++ [⟨M.next, mode, d⟩], next := M.next + 1 } s := ⟨nb, fb, kb, _, kl, hM3, HO2.out⟩
  have HWA := Lib.hid hWA; clear hWA
  go_wp2_with (go_at_call 60; refine (put_any B0 wb { M with files := M.files ++ [⟨M.next, mode, d⟩], next := M.next + 1 } s ⟨p, M.next, 0, hp⟩ _ HWA.out Hn.out (by
    intro f hf
    rcases List.mem_append.1 hf with hf | hf
    · exact (HidF.out f hf).1
    · rw [List.mem_singleton.1 hf]; exact h0) (.inr (by simp)) ⟨by show _ ≤ M.next; omega, by show M.next ≤ _; omega⟩ hs hl).mono ?_; rintro e w5 ⟨⟨v, rfl⟩, hw5, hf5⟩)
  refine bodyPost_ret (results_none rfl _ _ _) rfl ⟨⟨_, rfl⟩, hw5, hFr.trans hf5⟩
end Go.Proofs.Ythmeffpickejkaa
