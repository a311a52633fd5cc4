/- model.look: what is at a path, by its prefixes. -/
import Derived.Test.YthmeffpickejkaaPlace
import Derived.Test.YthmeffpickejkaaKit
import Derived.Lib.OthersKept
namespace Go.Proofs.Ythmeffpickejkaa
open Go.RowKit

theorem vrun_ascii : ∀ (l : List UInt8) (names : Nat) (last : List UInt8), vrun l names last = true → ∀ c ∈ l, c.toNat = 47 ∨ okc c = true
  | [], _, _, _, c, h => by cases h
  | a :: t, names, last, h, c, hc => by
    rw [vrun] at h
    split at h
    · rename_i h47
      split at h
      · cases h
      · rcases List.mem_cons.1 hc with rfl | hc
        · exact .inl h47
        · exact vrun_ascii t _ _ h c hc
    · split at h
      · rename_i ho
        split at h
        · cases h
        · rcases List.mem_cons.1 hc with rfl | hc
          · exact .inr ho
          · exact vrun_ascii t _ _ h c hc
      · cases h
theorem okc_lt {c : UInt8} (h : okc c = true) : c.toNat < 128 := by simp [okc] at h; omega
theorem valid_ascii {p : ByteArray} (h : validL p.data.toList = true) {i : Nat} (hi : i < p.size) : (p[i]'hi).toNat < 128 := by
  rcases vrun_ascii _ _ _ h (p[i]'hi) (by show p.data[i] ∈ p.data.toList; simp) with h | h
  · omega
  · exact okc_lt h
/-- The error of the directories above a path, from a place on. -/
def lookGo (l : List Node) (p : ByteArray) : Nat → Nat → Int
  | 0, _ => 0
  | n + 1, pos => if p.data.toList[pos]? = some 47 then (match nodeAt l (p.extract 0 pos) with
      | none => 21
      | some x => if 0 ≤ x.file then 22 else lookGo l p n (pos + 1)) else lookGo l p n (pos + 1)
def lookE (l : List Node) (p : ByteArray) : Int := lookGo l p p.size 0
def lookF (l : List Node) (p : ByteArray) : Int := if lookE l p = 0 then ((nodeAt l p).map (·.file)).getD 0 else 0
def lookM (l : List Node) (p : ByteArray) : Int := if lookE l p = 0 then ((nodeAt l p).map (·.mode)).getD 0 else 0
def lookT (l : List Node) (p : ByteArray) : Bool := decide (lookE l p = 0) && (nodeAt l p).isSome
def LookRes (l : List Node) (p : ByteArray) (w : World) (e : Ending) (w' : World) : Prop := e = .returned (.tuple #[.agg #[.int .i64 (lookF l p), .int .i64 (lookM l p)], .bool (lookT l p), .int .i64 (lookE l p)]) ∧ Below w.heap.size w w'
theorem look_err {l : List Node} {p : ByteArray} (h : lookE l p ≠ 0) : lookF l p = 0 ∧ lookM l p = 0 ∧ lookT l p = false := by simp [lookF, lookM, lookT, h]
def LookAt (l : List Node) (p : ByteArray) (w wr : World) : Prop := ∃ pos, pos ≤ p.size ∧ lookGo l p (p.size - pos) pos = lookE l p ∧ wr.heap[w.heap.size + 1]? = some (.stringIter p pos) ∧ Blk wr w.heap.size 108 #[.int .i64 0, .int .i64 0] ∧ Below w.heap.size w wr
theorem iterPos_of {w : World} {k : Nat} {s : ByteArray} {pos : Nat} (h : w.heap[k]? = some (.stringIter s pos)) : w.iterPos k = pos := by simp [World.iterPos, h]
set_option maxRecDepth 100000 in
set_option maxHeartbeats 2000000 in
theorem look_any (B0 wb : Nat) (M : PW) (s : Nat) (p : ByteArray) (hp : p.size ≤ 9223372036854775807) (hv : validL p.data.toList = true) (w : World) (h : WorldAt B0 w wb M s) :
    Calls Try.prog 97 #[.pointer (some ⟨wb, 0, none⟩), .string p] w (LookRes M.nodes p w) := by
  obtain ⟨nb, fb, kb, ms, kl, hM, _⟩ := h
  have Hv := Lib.hid hv; clear hv
  go_enter Try.func97, Try.ntmps97
  go_wp2
  have h0 : LookAt M.nodes p w ((w.alloc (.cells #[.int .i64 0, .int .i64 0] 108)).iter p 0) := by
    refine ⟨0, Nat.zero_le _, rfl, ?_, (Blk.new _ _ _).alloc _, ((Below.refl _ _).alloc (Nat.le_refl _) _).alloc (by simp) _⟩
    have := World.iter_heap (w.alloc (.cells #[.int .i64 0, .int .i64 0] 108)) p 0
    rwa [World.size_alloc] at this
  have H0 := Lib.hid h0; clear h0
  go_loopw [7] (fun _ wr => LookAt M.nodes p w wr) (fun _ wr => p.size - wr.iterPos (w.heap.size + 1))
  case atStart => exact H0.out
  case round =>
    clear H0
    obtain ⟨pos, hpos, hE, hit, hB, hb⟩ := hrel
    replace hE := Lib.hid hE
    have hwsz := hb.size
    have hitlt : w.heap.size + 1 < wr.heap.size := (Array.getElem?_eq_some_iff.1 hit).1
    by_cases hlt : pos < p.size
    · have ha := valid_ascii Hv.out hlt
      have hcd : p.data.toList[pos]? = some (p[pos]'hlt) := by
        rw [List.getElem?_eq_getElem (by simpa using hlt)]; rfl
      obtain ⟨c, hc⟩ : ∃ c, p[pos]'hlt = c := ⟨_, rfl⟩
      rw [hc] at ha hcd
      have hnx := fun ty => Lib.run_next_ascii_at (P := Try.prog) wr (w.heap.size + 1) p pos ty hit hlt (by rw [hc]; exact ha)
      rw [hc] at hnx
      have hit1 := Lib.iterAt_heap wr (w.heap.size + 1) p pos (pos + 1) hit
      have hB1 : Blk (wr.iterAt (w.heap.size + 1) p (pos + 1)) w.heap.size 108 #[.int .i64 0, .int .i64 0] := hB.keep (Lib.iterAt_other wr _ _ p _ (by omega))
      have hb1 := Lib.below_iterAt hb (k := w.heap.size + 1) (Nat.le_succ _) p (pos + 1)
      obtain ⟨W1, hW1⟩ : ∃ W1, W1 = wr.iterAt (w.heap.size + 1) p (pos + 1) := ⟨_, rfl⟩
      rw [← hW1] at hnx hit1 hB1 hb1
      obtain ⟨n, hn⟩ : ∃ n, p.size - pos = n + 1 := ⟨p.size - pos - 1, by omega⟩
      have hn2 : p.size - (pos + 1) = n := by omega
      have hgo := hE.out
      rw [hn, lookGo, hcd] at hgo
      have Hit1 := Lib.hid hit1
      have Hit := Lib.hid (iterPos_of hit)
      have Hhit := Lib.hid hit
      clear hW1 hcd hit1 hit
      by_cases h47 : c.toNat = 47
      · have t47 : ((c.toNat : Int) != 47) = false := by simp; omega
        rw [if_pos (by congr 1; exact UInt8.toNat_inj.1 h47)] at hgo
        obtain ⟨q, hq⟩ : ∃ q, p.extract 0 pos = q := ⟨_, rfl⟩
        have hqz : q.size ≤ 9223372036854775807 := by rw [← hq, ByteArray.size_extract]; omega
        have hqz2 : strK.ok q := hqz
        have hM1 := hM.keep (grown_below hb1 (Nat.le_refl _))
        replace h47 := Lib.hid h47
        rw [hq] at hgo
        have b0 := hM1.blk.cell 0
        have hwl := hM1.blk.lt
        have Hq := Lib.hid hq
        cases hnd : nodeAt M.nodes q with
        | none =>
          rw [hnd] at hgo
          simp only at hgo
          have hg1 : (getV (nodesE M.nodes) q).getD (.agg #[.int .i64 0, .int .i64 0]) = .agg #[.int .i64 0, .int .i64 0] := by rw [nodesE_get, hnd]; rfl
          have hg2 : (getV (nodesE M.nodes) q).isSome = false := by rw [nodesE_get, hnd]; rfl
          have Hg1 := Lib.hid hg1; have Hg2 := Lib.hid hg2
          have Hgo := Lib.hid hgo
          clear hg1 hg2 hgo hnd
          go_upto_region 5 with (fail)
          have hml := fun (w' : World) (hh : ∀ b, b < W1.heap.size → w'.heap[b]? = W1.heap[b]?) => hM1.nodes.keep (hh nb hM1.nodes.lt)
          have Hml := Lib.hid hml; clear hml
          refine wp_region_ordB (none) [(0, true), (1, true), (2, true), (3, true), (4, true), (5, true), (6, true), (7, true), (8, true), (9, true), (10, true), (11, false), (12, false), (13, true)] (by kernel_rfl) (by kernel_rfl) fun hG0 => ?_
          repeat (first
            | (refine ord_skipB rfl (by rfl) ?_; simp only [Act.put, List.setIfInBounds_toArray, List.set_cons_zero, List.set_cons_succ])
            | (refine ord_qH rfl (by rfl) (fun w' hh => exec_mv_ok Try.mtNodes rfl rfl rfl (Hml.out w' fun b hb => hh b hb (by simp)) hqz2 Hg1.out Hg2.out) ?_; simp only [Act.put, List.setIfInBounds_toArray, List.set_cons_zero, List.set_cons_succ])
            | (refine ord_qE rfl (by rfl) ?_; apply Exists.intro; refine ⟨fun w' hc' => ?_, ?_⟩; (focus (go_simp; (try go_bits); (try simp only [↓IntWalk.iteOmega]); with_reducible rfl)); simp only [Act.put, List.setIfInBounds_toArray, List.set_cons_zero, List.set_cons_succ]))
          refine ord_eB rfl fun K hK => ?_
          go_wp2_with (fail)
          have hG1 := grown_trans hG0 (World.grownBy_alloc W1.drew (.cells #[.int .i64 0, .int .i64 0] 108) none)
          refine hK.out _ _ hG1 ?_
          clear hK K
          repeat (first
            | (refine ord_skipB rfl (by rfl) ?_; simp only [Act.put, List.setIfInBounds_toArray, List.set_cons_zero, List.set_cons_succ])
            | (refine ord_qH rfl (by rfl) (fun w' hh => exec_mv_ok Try.mtNodes rfl rfl rfl (Hml.out w' fun b hb => hh b hb (by simp)) hqz2 Hg1.out Hg2.out) ?_; simp only [Act.put, List.setIfInBounds_toArray, List.set_cons_zero, List.set_cons_succ])
            | (refine ord_qE rfl (by rfl) ?_; apply Exists.intro; refine ⟨fun w' hc' => ?_, ?_⟩; (focus (go_simp; (try go_bits); (try simp only [↓IntWalk.iteOmega]); with_reducible rfl)); simp only [Act.put, List.setIfInBounds_toArray, List.set_cons_zero, List.set_cons_succ]))
          refine ord_eB rfl fun K hK => ?_
          go_wp2_with (fail)
          have hG2 := grown_trans hG0 (World.grownBy_alloc W1.drew (.cells #[.int .i64 0, .int .i64 0] 108) none)
          refine hK.out _ _ hG2 ?_
          clear hK K
          repeat (first
            | (refine ord_skipB rfl (by rfl) ?_; simp only [Act.put, List.setIfInBounds_toArray, List.set_cons_zero, List.set_cons_succ])
            | (refine ord_qH rfl (by rfl) (fun w' hh => exec_mv_ok Try.mtNodes rfl rfl rfl (Hml.out w' fun b hb => hh b hb (by simp)) hqz2 Hg1.out Hg2.out) ?_; simp only [Act.put, List.setIfInBounds_toArray, List.set_cons_zero, List.set_cons_succ])
            | (refine ord_qE rfl (by rfl) ?_; apply Exists.intro; refine ⟨fun w' hc' => ?_, ?_⟩; (focus (go_simp; (try go_bits); (try simp only [↓IntWalk.iteOmega]); with_reducible rfl)); simp only [Act.put, List.setIfInBounds_toArray, List.set_cons_zero, List.set_cons_succ]))
          refine ord_end ?_
          have hB2 := hB1.grown hG2 (by simp)
          replace hb1 := hb1.trans (below_grown hG2 (hb1.size) (fun g e => by cases e))
          go_wp2_with (refine wpList_store_blk rfl _ _ _ rfl hB2 #[.int .i64 0, .int .i64 0] rfl rfl (by kernel_rfl) (by kernel_rfl) (by kernel_rfl) ?_; intro w5 hB5 hg5 hs5)
          refine ret_cell_tt rfl rfl (load_blk hB5 Try.underlying108 rfl (by kernel_rfl)) rfl ⟨?_, hb1.trans (below_grown hg5 hb1.size (fun g e => by injection e with e; omega))⟩
          obtain ⟨l1, l2, l3⟩ := look_err (l := M.nodes) (p := p) (by rw [← Hgo.out]; decide)
          rw [l1, l2, l3, ← Hgo.out]
          rfl
        | some x =>
          rw [hnd] at hgo
          simp only at hgo
          have hg1 : (getV (nodesE M.nodes) q).getD (.agg #[.int .i64 0, .int .i64 0]) = .agg #[.int .i64 x.file, .int .i64 x.mode] := by rw [nodesE_get, hnd]; rfl
          have hg2 : (getV (nodesE M.nodes) q).isSome = true := by rw [nodesE_get, hnd]; rfl
          have Hg1 := Lib.hid hg1; have Hg2 := Lib.hid hg2
          clear hg1 hg2 hnd
          replace hgo := Lib.hid hgo
          go_upto_region 5 with (fail)
          have hml := fun (w' : World) (hh : ∀ b, b < W1.heap.size → w'.heap[b]? = W1.heap[b]?) => hM1.nodes.keep (hh nb hM1.nodes.lt)
          have Hml := Lib.hid hml; clear hml
          refine wp_region_ordB (none) [(0, true), (1, true), (2, true), (3, true), (4, true), (5, true), (6, true), (7, true), (8, true), (9, true), (10, true), (11, false), (12, false), (13, true)] (by kernel_rfl) (by kernel_rfl) fun hG0 => ?_
          repeat (first
            | (refine ord_skipB rfl (by rfl) ?_; simp only [Act.put, List.setIfInBounds_toArray, List.set_cons_zero, List.set_cons_succ])
            | (refine ord_qH rfl (by rfl) (fun w' hh => exec_mv_ok Try.mtNodes rfl rfl rfl (Hml.out w' fun b hb => hh b hb (by simp)) hqz2 Hg1.out Hg2.out) ?_; simp only [Act.put, List.setIfInBounds_toArray, List.set_cons_zero, List.set_cons_succ])
            | (refine ord_qE rfl (by rfl) ?_; apply Exists.intro; refine ⟨fun w' hc' => ?_, ?_⟩; (focus (go_simp; (try go_bits); (try simp only [↓IntWalk.iteOmega]); with_reducible rfl)); simp only [Act.put, List.setIfInBounds_toArray, List.set_cons_zero, List.set_cons_succ]))
          refine ord_eB rfl fun K hK => ?_
          go_wp2_with (fail)
          have hG1 := grown_trans hG0 (World.grownBy_alloc W1.drew (.cells #[.int .i64 0, .int .i64 0] 108) none)
          refine hK.out _ _ hG1 ?_
          clear hK K
          repeat (first
            | (refine ord_skipB rfl (by rfl) ?_; simp only [Act.put, List.setIfInBounds_toArray, List.set_cons_zero, List.set_cons_succ])
            | (refine ord_qH rfl (by rfl) (fun w' hh => exec_mv_ok Try.mtNodes rfl rfl rfl (Hml.out w' fun b hb => hh b hb (by simp)) hqz2 Hg1.out Hg2.out) ?_; simp only [Act.put, List.setIfInBounds_toArray, List.set_cons_zero, List.set_cons_succ])
            | (refine ord_qE rfl (by rfl) ?_; apply Exists.intro; refine ⟨fun w' hc' => ?_, ?_⟩; (focus (go_simp; (try go_bits); (try simp only [↓IntWalk.iteOmega]); with_reducible rfl)); simp only [Act.put, List.setIfInBounds_toArray, List.set_cons_zero, List.set_cons_succ]))
          refine ord_eB rfl fun K hK => ?_
          go_wp2_with (fail)
          have hG2 := grown_trans hG0 (World.grownBy_alloc W1.drew (.cells #[.int .i64 x.file, .int .i64 x.mode] 108) none)
          refine hK.out _ _ hG2 ?_
          clear hK K
          repeat (first
            | (refine ord_skipB rfl (by rfl) ?_; simp only [Act.put, List.setIfInBounds_toArray, List.set_cons_zero, List.set_cons_succ])
            | (refine ord_qH rfl (by rfl) (fun w' hh => exec_mv_ok Try.mtNodes rfl rfl rfl (Hml.out w' fun b hb => hh b hb (by simp)) hqz2 Hg1.out Hg2.out) ?_; simp only [Act.put, List.setIfInBounds_toArray, List.set_cons_zero, List.set_cons_succ])
            | (refine ord_qE rfl (by rfl) ?_; apply Exists.intro; refine ⟨fun w' hc' => ?_, ?_⟩; (focus (go_simp; (try go_bits); (try simp only [↓IntWalk.iteOmega]); with_reducible rfl)); simp only [Act.put, List.setIfInBounds_toArray, List.set_cons_zero, List.set_cons_succ]))
          refine ord_end ?_
          have hB2 := hB1.grown hG2 (by simp)
          have hX := Blk.new W1.drew 108 #[.int .i64 x.file, .int .i64 x.mode]
          have x0 := hX.cell 0
          have hi2 : (W1.drew.alloc (.cells #[.int .i64 x.file, .int .i64 x.mode] 108)).heap[w.heap.size + 1]? = some (.stringIter p (pos + 1)) := (hG2.block (w.heap.size + 1) (Array.getElem?_eq_some_iff.1 Hit1.out).1 (by simp)).trans Hit1.out
          replace hb1 := hb1.trans (below_grown hG2 (hb1.size) (fun g e => by cases e))
          have Hi2 := Lib.hid hi2; clear hi2
          by_cases h0 : 0 ≤ x.file
          · have hgo2 := hgo.out
            rw [if_pos h0] at hgo2
            have Hgo := Lib.hid hgo2; clear hgo2 hgo
            go_wp2_with (refine wpList_store_blk rfl _ _ _ rfl hB2 #[.int .i64 0, .int .i64 0] rfl rfl (by kernel_rfl) (by kernel_rfl) (by kernel_rfl) ?_; intro w5 hB5 hg5 hs5)
            refine ret_cell_tt rfl rfl (load_blk hB5 Try.underlying108 rfl (by kernel_rfl)) rfl ⟨?_, hb1.trans (below_grown hg5 hb1.size (fun g e => by injection e with e; omega))⟩
            obtain ⟨l1, l2, l3⟩ := look_err (l := M.nodes) (p := p) (by rw [← Hgo.out]; decide)
            rw [l1, l2, l3, ← Hgo.out]
            rfl
          · have hgo2 := hgo.out
            rw [if_neg h0] at hgo2
            have Hgo := Lib.hid hgo2; clear hgo2 hgo
            go_wp2
            go_roundw
            case rel => exact ⟨pos + 1, by omega, by rw [hn2]; exact Hgo.out, Hi2.out, hB2, hb1⟩
            case measure => exact Nat.lt_of_le_of_lt (Nat.le_of_eq (congrArg (p.size - ·) (iterPos_of Hi2.out))) (by rw [Hit.out]; omega)
      · have t47 : ((c.toNat : Int) != 47) = true := by simp; omega
        rw [if_neg (fun e => h47 (by injection e with e; rw [e]; rfl))] at hgo
        replace h47 := Lib.hid h47
        have Hgo := Lib.hid hgo; clear hgo
        go_wp2
        go_roundw
        case rel => exact ⟨pos + 1, by omega, by rw [hn2]; exact Hgo.out, Hit1.out, hB1, hb1⟩
        case measure => rw [iterPos_of Hit1.out, Hit.out]; omega
    · have hpe : pos = p.size := by omega
      subst hpe
      have hE0 : lookE M.nodes p = 0 := by rw [← hE.out]; simp [lookGo]
      have hnx := fun ty => Lib.run_next_end_at (P := Try.prog) wr (w.heap.size + 1) p p.size ty hit (by omega)
      have hM1 := hM.keep (grown_below hb (Nat.le_refl _))
      have b0 := hM1.blk.cell 0
      have hfr : lookF M.nodes p = ((nodeAt M.nodes p).map (·.file)).getD 0 ∧ lookM M.nodes p = ((nodeAt M.nodes p).map (·.mode)).getD 0 ∧ lookT M.nodes p = (nodeAt M.nodes p).isSome := by simp [lookF, lookM, lookT, hE0]
      obtain ⟨f, hf⟩ : ∃ f, lookF M.nodes p = f := ⟨_, rfl⟩
      obtain ⟨m, hm⟩ : ∃ m, lookM M.nodes p = m := ⟨_, rfl⟩
      obtain ⟨t, ht⟩ : ∃ t, lookT M.nodes p = t := ⟨_, rfl⟩
      have hg1 : (getV (nodesE M.nodes) p).getD (.agg #[.int .i64 0, .int .i64 0]) = .agg #[.int .i64 f, .int .i64 m] := by
        rw [nodesE_get, ← hf, ← hm, hfr.1, hfr.2.1]
        cases nodeAt M.nodes p <;> rfl
      have hg2 : (getV (nodesE M.nodes) p).isSome = t := by
        rw [nodesE_get, ← ht, hfr.2.2]
        cases nodeAt M.nodes p <;> rfl
      have Hf := Lib.hid hf; have Hm := Lib.hid hm; have Ht := Lib.hid ht; have HE0 := Lib.hid hE0
      have Hg1 := Lib.hid hg1; have Hg2 := Lib.hid hg2
      have Hhit := Lib.hid hit
      clear hf hm ht hfr hE0 hg1 hg2 hit hE
      go_upto_region 11 with (refine wpList_mv_ok rfl Try.mtNodes _ _ rfl rfl hM1.nodes (T := strK) (q := p) rfl hp Hg1.out Hg2.out ?_)
      have hB2 := hB.alloc (.cells #[.int .i64 f, .int .i64 m] 108)
      have hX := Blk.new wr 108 #[.int .i64 f, .int .i64 m]
      replace hb := hb.alloc (by omega) (.cells #[.int .i64 f, .int .i64 m] 108)
      have x0 := hX.cell 0
      have x1 := hX.cell 1
      go_wp2_with (refine wpList_store_blk rfl _ _ _ rfl hB2 #[.int .i64 f, .int .i64 m] rfl rfl (by kernel_rfl) (by kernel_rfl) (by kernel_rfl) ?_; intro w5 hB5 hg5 hs5)
      refine ret_cell_tt rfl rfl (load_blk hB5 Try.underlying108 rfl (by kernel_rfl)) rfl ⟨?_, hb.trans (below_grown hg5 hb.size (fun g e => by injection e with e; omega))⟩
      rw [Hf.out, Hm.out, Ht.out, HE0.out]
      rfl
end Go.Proofs.Ythmeffpickejkaa
