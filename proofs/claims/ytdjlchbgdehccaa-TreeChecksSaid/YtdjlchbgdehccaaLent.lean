/- shuntlaw6.Lent: a tree in memory of its own, with one more behind each list. -/
import Derived.Test.YtdjlchbgdehccaaCanonP
import Derived.Test.YtdjlchbgdehccaaStays
import Derived.Test.YtdjlchbgdehccaaKit
namespace Go.Proofs.Ytdjlchbgdehccaa
open Go.RowKit

theorem last_one (m : Int) : ∀ u ∈ ([.string ByteArray.empty, .int .i64 m, .int .i64 0] : List Value), u.oneCell' = true := by
  intro u hu
  simp only [List.mem_cons, List.not_mem_nil, or_false] at hu
  rcases hu with rfl | rfl | rfl <;> rfl
def LentN (w : World) (tv : Array Value) (nodes : List Node) (nn : Nat) (v : Value) (wr : World) : Prop :=
  ∃ (ub : Nat) (A : Option Addr) (c : Nat), v = .pointer (some ⟨ub, 0, none⟩) ∧ w.heap.size + 2 ≤ ub ∧ Blk wr ub 26 #[.slice A nn c, .slice none 0 0] ∧ wr.ownsRow w.heap.size 29 3 (.slice A (nn + 1) c) (nn + 1) (nodes.flatMap Node.list ++ [.string ByteArray.empty, .int .i64 (-71), .int .i64 0]) ∧
    Blk wr w.heap.size 26 tv ∧ Blk wr (w.heap.size + 1) 26 #[.slice none 0 0, .slice none 0 0] ∧ Below w.heap.size w wr
/-- What stands ahead of each round. -/
def LentF (w wr : World) (tv : Array Value) (ub : Nat) (A : Option Addr) (nn c : Nat) (nodes : List Node) (files : List FC) (ds : List ByteArray) (j : Nat) : Prop :=
  ∃ (FB : Option Addr) (fd : Nat) (gs : List FC), Blk wr ub 26 #[.slice A nn c, .slice FB j fd] ∧ wr.ownsRow w.heap.size 29 3 (.slice A (nn + 1) c) (nn + 1) (nodes.flatMap Node.list ++ [.string ByteArray.empty, .int .i64 (-71), .int .i64 0]) ∧
    wr.ownsRow w.heap.size 39 2 (.slice FB j fd) j (gs.flatMap FC.list) ∧ gs.length = j ∧ gs.map (·.mode) = (files.take j).map (·.mode) ∧
    (∀ (k : Nat) (f : FC) (d : ByteArray), gs[k]? = some f → ds[k]? = some d → f.n = d.size ∧ ∃ g, f.A = some ⟨g, 0, none⟩ ∧ wr.ownsRow w.heap.size 5 1 (.slice (some ⟨g, 0, none⟩) (f.n + 1) f.c) (f.n + 1) (bytesC d ++ [.int .u8 167])) ∧
    Blk wr w.heap.size 26 tv ∧ Blk wr (w.heap.size + 1) 26 #[.slice none 0 0, .slice none 0 0] ∧ Below w.heap.size w wr
set_option maxRecDepth 100000 in
set_option maxHeartbeats 8000000 in
theorem lent_any (t : TV) (ds : List ByteArray) (w : World) (h : TreeD w t ds) (hn1 : t.nn ≤ 100000) (hf1 : t.fn ≤ 100000) (hsm : ∀ x ∈ t.files, x.n ≤ 2000000) :
    Calls Try.prog 33 #[t.val] w fun e w' => ∃ u, e = .returned u.val ∧ LentAt w' u ∧ TreeD w' u ds ∧ exactB u t ds ds = true ∧ Below w.heap.size w w' := by
  have HD := Lib.hid h.dat
  have hns := h.tree.ns
  have hnl := h.tree.nl
  have hfs := h.tree.fs
  have hfl := h.tree.fl
  clear h
  obtain ⟨nodes, files, NA, nn, nc, FA, fn, fc⟩ := t
  simp only at hns hnl hfs hfl hn1 hf1 hsm
  have HS := Lib.hid hns; clear hns
  have Hn := Lib.hid hnl; clear hnl
  have HFS := Lib.hid hfs; clear hfs
  have Hfl := Lib.hid hfl; clear hfl
  have HSM := Lib.hid hsm; clear hsm
  unfold TV.val
  go_enter Try.func33, Try.ntmps33
  have hB := (Blk.new w 26 #[.slice NA nn nc, .slice FA fn fc]).alloc (.cells #[.slice none 0 0, .slice none 0 0] 26)
  have hR := Blk.new (w.alloc (.cells #[.slice NA nn nc, .slice FA fn fc] 26)) 26 #[.slice none 0 0, .slice none 0 0]
  rw [World.size_alloc] at hR
  have hb := ((Below.refl w.heap.size w).alloc (Nat.le_refl _) (.cells #[.slice NA nn nc, .slice FA fn fc] 26)).alloc (by simp) (.cells #[.slice none 0 0, .slice none 0 0] 26)
  go_upto_region 1 with (fail)
  obtain ⟨W0, hW0⟩ : ∃ W0, W0 = (w.alloc (.cells #[.slice NA nn nc, .slice FA fn fc] 26)).alloc (.cells #[.slice none 0 0, .slice none 0 0] 26) := ⟨_, rfl⟩
  have HW0s := Lib.hid (show W0.heap.size = w.heap.size + 2 by rw [hW0]; simp)
  rw [← hW0] at hB hR hb ⊢
  clear hW0
  have hs := hb.size
  have b0 := hB.cell 0; have b1 := hB.cell 1
  have hBl := hB.lt; have hRl := hR.lt
  have hnni : (nn : Int) ≤ nn + 1 := by omega
  go_cut [3] from 6 to 16 (fun v wx => LentN w #[.slice NA nn nc, .slice FA fn fc] nodes nn v wx)
  case first =>
    refine wp_region_T (none) (.q 0 (.q 1 (.q 3 (.q 6 (.q 7 (.q 8 (.e3 2 4 11 (.e2 4 11 (.e2 5 11 (.q 9 (.q 10 (.e1 11 (.e1 12 .done)))) (.e1 5 (.q 9 (.q 10 (.e1 12 .done))))) (.e1 4 (.e1 5 (.q 9 (.q 10 (.e1 12 .done)))))) (.e2 2 11 (.e2 5 11 (.q 9 (.q 10 (.e1 11 (.e1 12 .done)))) (.e1 5 (.q 9 (.q 10 (.e1 12 .done))))) (.e1 2 (.e1 5 (.q 9 (.q 10 (.e1 12 .done)))))) (.e2 2 4 (.e1 4 (.e1 5 (.q 9 (.q 10 (.e1 12 .done))))) (.e1 2 (.e1 5 (.q 9 (.q 10 (.e1 12 .done))))))))))))) (by kernel_rfl) (by kernel_rfl) fun hG0 => ?_
    repeat (first
      | (refine tree_skip rfl (by rfl) ?_; simp only [Act.put, List.setIfInBounds_toArray, List.set_cons_zero, List.set_cons_succ])
      | (refine tree_qE rfl (by rfl) ?_; apply Exists.intro; refine ⟨fun w' hc' => ?_, ?_⟩; (focus (go_simp; (try go_bits); (try simp only [↓IntWalk.iteOmega]); with_reducible rfl)); simp only [Act.put, List.setIfInBounds_toArray, List.set_cons_zero, List.set_cons_succ]))
    refine tree_e3 (tree_step rfl fun K hK => ?_) (tree_step rfl fun K hK => ?_) (tree_step rfl fun K hK => ?_)
    · have hsz2 : w.heap.size ≤ (W0.drew).heap.size := Nat.le_trans hs hG0.size
      go_wp2_with (at_builtin; refine wpList_append_sl rfl _ _ _ rfl Try.nodeT rfl (World.ownsRow_nil (W0.drew) w.heap.size _ _) rfl (HS.out.below (hb.trans (below_grown hG0 hs (fun g e => by cases e))) (Nat.le_refl _)) (node_one nodes) (by unfold maxLen; omega) (by omega) hsz2 ?_; intro Aa ca w2 hoa hg2 hat2)
      simp only [Nat.zero_add, List.nil_append] at hoa ⊢
      have hgN : (W0.drew).grownBy w2 none := hg2
      have hlowa : ∀ g, blkOf Aa = some g → W0.heap.size ≤ g := fun g e => (hat2 g e).elim (fun h => by cases h) (fun h => Nat.le_trans hG0.size h)
      have hG1 := grown_trans hG0 (grown_any hgN)
      clear hg2 hat2 hgN
      refine hK.out _ _ hG1 ?_
      clear hK K
      refine tree_e2 (tree_step rfl fun K hK => ?_) (tree_step rfl fun K hK => ?_)
      · have hgN := World.grownBy_alloc (w2) (.cells #[.string ByteArray.empty, .int .i64 (-71), .int .i64 0] 29) none
        have hBe : Blk (World.alloc (w2) (.cells #[.string ByteArray.empty, .int .i64 (-71), .int .i64 0] 29)) (w2.heap.size) 29 #[.string ByteArray.empty, .int .i64 (-71), .int .i64 0] := by first | exact Blk.new (w2) 29 #[.string ByteArray.empty, .int .i64 (-71), .int .i64 0] | (have h := Blk.new (w2) 29 #[.string ByteArray.empty, .int .i64 (-71), .int .i64 0]; simp only [World.size_alloc] at h; exact h)
        have prea := hoa
        replace hoa := own_keep hoa fun g o e => hgN.block g (own_lt2 (by rw [← e]; exact hoa)).2.1 (by simp)
        go_wp2_with (fail)
        have hG2 := grown_trans hG1 (grown_any hgN)
        refine hK.out _ _ hG2 ?_
        clear hK K
        obtain ⟨Ne, hNe⟩ : ∃ N, (w2.heap.size) = N := ⟨_, rfl⟩
        have hNle : W0.heap.size ≤ w2.heap.size := by first | exact Nat.le_refl _ | exact hG1.size | (have h := hG1.size; simp only [World.size_alloc] at h; exact h)
        clear hNe Ne hgN
        refine tree_e2 (tree_step rfl fun K hK => ?_) (tree_step rfl fun K hK => ?_)
        · have hsz5 : w.heap.size ≤ (World.alloc (w2) (.cells #[.string ByteArray.empty, .int .i64 (-71), .int .i64 0] 29)).heap.size := Nat.le_trans hs hG2.size
          have hel5 : Sl (World.alloc (w2) (.cells #[.string ByteArray.empty, .int .i64 (-71), .int .i64 0] 29)) (World.alloc (w2) (.cells #[.string ByteArray.empty, .int .i64 (-71), .int .i64 0] 29)).heap.size 3 (some ⟨w2.heap.size, 0, none⟩) 1 ([.string ByteArray.empty, .int .i64 (-71), .int .i64 0]) := Sl.blk hBe rfl rfl hBe.lt
          go_wp2_with (at_builtin; refine wpList_append_sl rfl _ _ _ rfl Try.nodeT rfl hoa rfl hel5 (last_one _) (by unfold maxLen; omega) (by omega) hsz5 ?_; intro Ab cb w5 hob hg5 hat5)
          have hgN : (World.alloc (w2) (.cells #[.string ByteArray.empty, .int .i64 (-71), .int .i64 0] 29)).grownBy w5 (blkOf Aa) := hg5
          have hlowb : ∀ g, blkOf Ab = some g → W0.heap.size ≤ g := fun g e => (hat5 g e).elim (fun h => hlowa g h) (fun h => Nat.le_trans hG2.size h)
          have hG3 := grown_own hG2 hgN (fun g e => .inr (hlowa g e))
          clear hg5 hat5 hgN hoa hBe hel5
          refine hK.out _ _ hG3 ?_
          clear hK K
          obtain ⟨gb, rfl⟩ := own_some hob (by omega)
          have hcap := (own_row hob).2.2.2.1
          have hcapi : (nn : Int) ≤ cb := by omega
          repeat (first
            | (refine tree_skip rfl (by rfl) ?_; simp only [Act.put, List.setIfInBounds_toArray, List.set_cons_zero, List.set_cons_succ])
            | (refine tree_qE rfl (by rfl) ?_; apply Exists.intro; refine ⟨fun w' hc' => ?_, ?_⟩; (focus (go_simp; (try go_bits); (try simp only [↓IntWalk.iteOmega]); with_reducible rfl)); simp only [Act.put, List.setIfInBounds_toArray, List.set_cons_zero, List.set_cons_succ]))
          refine tree_e1 (tree_step rfl fun K hK => ?_)
          have hgN := World.grownBy_alloc (w5) (.cells #[.slice none 0 0, .slice none 0 0] 26) none
          have hBu : Blk (World.alloc (w5) (.cells #[.slice none 0 0, .slice none 0 0] 26)) (w5.heap.size) 26 #[.slice none 0 0, .slice none 0 0] := by first | exact Blk.new (w5) 26 #[.slice none 0 0, .slice none 0 0] | (have h := Blk.new (w5) 26 #[.slice none 0 0, .slice none 0 0]; simp only [World.size_alloc] at h; exact h)
          have preb := hob
          replace hob := own_keep hob fun g o e => hgN.block g (own_lt2 (by rw [← e]; exact hob)).2.1 (by simp)
          go_wp2_with (fail)
          have hG4 := grown_trans hG3 (grown_any hgN)
          refine hK.out _ _ hG4 ?_
          clear hK K
          obtain ⟨Nu, hNu⟩ : ∃ N, (w5.heap.size) = N := ⟨_, rfl⟩
          have hNlu : W0.heap.size ≤ w5.heap.size := by first | exact Nat.le_refl _ | exact hG3.size | (have h := hG3.size; simp only [World.size_alloc] at h; exact h)
          clear hNu Nu hgN
          refine tree_e1 (tree_step rfl fun K hK => ?_)
          go_wp2_with (fail)
          have hgN := World.grownBy_alloc (w5) (.cells #[.slice (some ⟨gb, 0, none⟩) nn cb, .slice none 0 0] 26) none
          replace hBu : Blk (World.alloc (w5) (.cells #[.slice (some ⟨gb, 0, none⟩) nn cb, .slice none 0 0] 26)) (w5.heap.size) 26 #[.slice (some ⟨gb, 0, none⟩) nn cb, .slice none 0 0] := by first | exact Blk.new (w5) 26 #[.slice (some ⟨gb, 0, none⟩) nn cb, .slice none 0 0] | (have h := Blk.new (w5) 26 #[.slice (some ⟨gb, 0, none⟩) nn cb, .slice none 0 0]; simp only [World.size_alloc] at h; exact h)
          replace hob := own_keep preb fun g o e => hgN.block g (own_lt2 (by rw [← e]; exact preb)).2.1 (by simp)
          have hG5 := grown_trans hG3 (grown_any hgN)
          refine hK.out _ _ hG5 ?_
          clear hK K
          refine tree_end ?_
          have hGL := hG5
          go_wp2_with (fail)
          go_meet
          have hW0s := HW0s.out
          exact ⟨_, some ⟨gb, 0, none⟩, cb, rfl, by omega, hBu, hob, hB.grown hGL (by simp), hR.grown hGL (by simp), hb.trans (below_grown hGL hs (fun g e => by cases e))⟩
        · have hgN := World.grownBy_alloc (World.alloc (w2) (.cells #[.string ByteArray.empty, .int .i64 (-71), .int .i64 0] 29)) (.cells #[.slice none 0 0, .slice none 0 0] 26) none
          have hBu : Blk (World.alloc (World.alloc (w2) (.cells #[.string ByteArray.empty, .int .i64 (-71), .int .i64 0] 29)) (.cells #[.slice none 0 0, .slice none 0 0] 26)) ((w2.heap.size + 1)) 26 #[.slice none 0 0, .slice none 0 0] := by first | exact Blk.new (World.alloc (w2) (.cells #[.string ByteArray.empty, .int .i64 (-71), .int .i64 0] 29)) 26 #[.slice none 0 0, .slice none 0 0] | (have h := Blk.new (World.alloc (w2) (.cells #[.string ByteArray.empty, .int .i64 (-71), .int .i64 0] 29)) 26 #[.slice none 0 0, .slice none 0 0]; simp only [World.size_alloc] at h; exact h)
          have prea := hoa
          have pree := hBe
          replace hoa := own_keep hoa fun g o e => hgN.block g (own_lt2 (by rw [← e]; exact hoa)).2.1 (by simp)
          replace hBe := hBe.grown hgN (by simp)
          go_wp2_with (fail)
          have hG3 := grown_trans hG2 (grown_any hgN)
          refine hK.out _ _ hG3 ?_
          clear hK K
          obtain ⟨Nu, hNu⟩ : ∃ N, ((w2.heap.size + 1)) = N := ⟨_, rfl⟩
          have hNlu : W0.heap.size ≤ (w2.heap.size + 1) := by first | exact Nat.le_refl _ | exact hG2.size | (have h := hG2.size; simp only [World.size_alloc] at h; exact h)
          clear hNu Nu hgN
          refine tree_e1 (tree_step rfl fun K hK => ?_)
          have hsz5 : w.heap.size ≤ (World.alloc (World.alloc (w2) (.cells #[.string ByteArray.empty, .int .i64 (-71), .int .i64 0] 29)) (.cells #[.slice none 0 0, .slice none 0 0] 26)).heap.size := Nat.le_trans hs hG3.size
          have hel5 : Sl (World.alloc (World.alloc (w2) (.cells #[.string ByteArray.empty, .int .i64 (-71), .int .i64 0] 29)) (.cells #[.slice none 0 0, .slice none 0 0] 26)) (World.alloc (World.alloc (w2) (.cells #[.string ByteArray.empty, .int .i64 (-71), .int .i64 0] 29)) (.cells #[.slice none 0 0, .slice none 0 0] 26)).heap.size 3 (some ⟨w2.heap.size, 0, none⟩) 1 ([.string ByteArray.empty, .int .i64 (-71), .int .i64 0]) := Sl.blk hBe rfl rfl hBe.lt
          go_wp2_with (at_builtin; refine wpList_append_sl rfl _ _ _ rfl Try.nodeT rfl hoa rfl hel5 (last_one _) (by unfold maxLen; omega) (by omega) hsz5 ?_; intro Ab cb w5 hob hg5 hat5)
          have hgN : (World.alloc (World.alloc (w2) (.cells #[.string ByteArray.empty, .int .i64 (-71), .int .i64 0] 29)) (.cells #[.slice none 0 0, .slice none 0 0] 26)).grownBy w5 (blkOf Aa) := hg5
          have hlowb : ∀ g, blkOf Ab = some g → W0.heap.size ≤ g := fun g e => (hat5 g e).elim (fun h => hlowa g h) (fun h => Nat.le_trans hG3.size h)
          replace hBu := hBu.grown hgN (hBu.ne_row hoa (by decide))
          have hG4 := grown_own hG3 hgN (fun g e => .inr (hlowa g e))
          clear hg5 hat5 hgN hoa hBe hel5
          refine hK.out _ _ hG4 ?_
          clear hK K
          obtain ⟨gb, rfl⟩ := own_some hob (by omega)
          have hcap := (own_row hob).2.2.2.1
          have hcapi : (nn : Int) ≤ cb := by omega
          repeat (first
            | (refine tree_skip rfl (by rfl) ?_; simp only [Act.put, List.setIfInBounds_toArray, List.set_cons_zero, List.set_cons_succ])
            | (refine tree_qE rfl (by rfl) ?_; apply Exists.intro; refine ⟨fun w' hc' => ?_, ?_⟩; (focus (go_simp; (try go_bits); (try simp only [↓IntWalk.iteOmega]); with_reducible rfl)); simp only [Act.put, List.setIfInBounds_toArray, List.set_cons_zero, List.set_cons_succ]))
          refine tree_e1 (tree_step rfl fun K hK => ?_)
          go_wp2_with (refine wpList_store_blk rfl 26 (.tmp 3) (.tmp 16) rfl hBu #[.slice (some ⟨gb, 0, none⟩) nn cb, .slice none 0 0] rfl rfl ((show (Try.prog.info? 26).map (·.size) = some 2 by kernel_rfl)) rfl (by simp [Value.oneCell']) ?_; intro w12 hBx hg12 hs12)
          replace hob := own_keep hob fun g o e => hg12.block g (own_lt2 (by rw [← e]; exact hob)).2.1 (fun e2 => hBu.ne_row hob (by decide) (by rw [← e2, e]; rfl))
          have hG5 := grown_own hG4 hg12 (fun g e => by injection e with e; subst e; exact .inr hNlu)
          replace hBu := hBx
          clear hBx hg12 hs12
          refine hK.out _ _ hG5 ?_
          clear hK K
          refine tree_end ?_
          have hGL := hG5
          go_wp2_with (fail)
          go_meet
          have hW0s := HW0s.out
          exact ⟨_, some ⟨gb, 0, none⟩, cb, rfl, by omega, hBu, hob, hB.grown hGL (by simp), hR.grown hGL (by simp), hb.trans (below_grown hGL hs (fun g e => by cases e))⟩
      · have hgN := World.grownBy_alloc (w2) (.cells #[.slice none 0 0, .slice none 0 0] 26) none
        have hBu : Blk (World.alloc (w2) (.cells #[.slice none 0 0, .slice none 0 0] 26)) (w2.heap.size) 26 #[.slice none 0 0, .slice none 0 0] := by first | exact Blk.new (w2) 26 #[.slice none 0 0, .slice none 0 0] | (have h := Blk.new (w2) 26 #[.slice none 0 0, .slice none 0 0]; simp only [World.size_alloc] at h; exact h)
        have prea := hoa
        replace hoa := own_keep hoa fun g o e => hgN.block g (own_lt2 (by rw [← e]; exact hoa)).2.1 (by simp)
        go_wp2_with (fail)
        have hG2 := grown_trans hG1 (grown_any hgN)
        refine hK.out _ _ hG2 ?_
        clear hK K
        obtain ⟨Nu, hNu⟩ : ∃ N, (w2.heap.size) = N := ⟨_, rfl⟩
        have hNlu : W0.heap.size ≤ w2.heap.size := by first | exact Nat.le_refl _ | exact hG1.size | (have h := hG1.size; simp only [World.size_alloc] at h; exact h)
        clear hNu Nu hgN
        refine tree_e1 (tree_step rfl fun K hK => ?_)
        have hgN := World.grownBy_alloc (World.alloc (w2) (.cells #[.slice none 0 0, .slice none 0 0] 26)) (.cells #[.string ByteArray.empty, .int .i64 (-71), .int .i64 0] 29) none
        have hBe : Blk (World.alloc (World.alloc (w2) (.cells #[.slice none 0 0, .slice none 0 0] 26)) (.cells #[.string ByteArray.empty, .int .i64 (-71), .int .i64 0] 29)) ((w2.heap.size + 1)) 29 #[.string ByteArray.empty, .int .i64 (-71), .int .i64 0] := by first | exact Blk.new (World.alloc (w2) (.cells #[.slice none 0 0, .slice none 0 0] 26)) 29 #[.string ByteArray.empty, .int .i64 (-71), .int .i64 0] | (have h := Blk.new (World.alloc (w2) (.cells #[.slice none 0 0, .slice none 0 0] 26)) 29 #[.string ByteArray.empty, .int .i64 (-71), .int .i64 0]; simp only [World.size_alloc] at h; exact h)
        have prea := hoa
        have preu := hBu
        replace hoa := own_keep hoa fun g o e => hgN.block g (own_lt2 (by rw [← e]; exact hoa)).2.1 (by simp)
        replace hBu := hBu.grown hgN (by simp)
        go_wp2_with (fail)
        have hG3 := grown_trans hG2 (grown_any hgN)
        refine hK.out _ _ hG3 ?_
        clear hK K
        obtain ⟨Ne, hNe⟩ : ∃ N, ((w2.heap.size + 1)) = N := ⟨_, rfl⟩
        have hNle : W0.heap.size ≤ (w2.heap.size + 1) := by first | exact Nat.le_refl _ | exact hG2.size | (have h := hG2.size; simp only [World.size_alloc] at h; exact h)
        clear hNe Ne hgN
        refine tree_e1 (tree_step rfl fun K hK => ?_)
        have hsz5 : w.heap.size ≤ (World.alloc (World.alloc (w2) (.cells #[.slice none 0 0, .slice none 0 0] 26)) (.cells #[.string ByteArray.empty, .int .i64 (-71), .int .i64 0] 29)).heap.size := Nat.le_trans hs hG3.size
        have hel5 : Sl (World.alloc (World.alloc (w2) (.cells #[.slice none 0 0, .slice none 0 0] 26)) (.cells #[.string ByteArray.empty, .int .i64 (-71), .int .i64 0] 29)) (World.alloc (World.alloc (w2) (.cells #[.slice none 0 0, .slice none 0 0] 26)) (.cells #[.string ByteArray.empty, .int .i64 (-71), .int .i64 0] 29)).heap.size 3 (some ⟨(w2.heap.size + 1), 0, none⟩) 1 ([.string ByteArray.empty, .int .i64 (-71), .int .i64 0]) := Sl.blk hBe rfl rfl hBe.lt
        go_wp2_with (at_builtin; refine wpList_append_sl rfl _ _ _ rfl Try.nodeT rfl hoa rfl hel5 (last_one _) (by unfold maxLen; omega) (by omega) hsz5 ?_; intro Ab cb w5 hob hg5 hat5)
        have hgN : (World.alloc (World.alloc (w2) (.cells #[.slice none 0 0, .slice none 0 0] 26)) (.cells #[.string ByteArray.empty, .int .i64 (-71), .int .i64 0] 29)).grownBy w5 (blkOf Aa) := hg5
        have hlowb : ∀ g, blkOf Ab = some g → W0.heap.size ≤ g := fun g e => (hat5 g e).elim (fun h => hlowa g h) (fun h => Nat.le_trans hG3.size h)
        replace hBu := hBu.grown hgN (hBu.ne_row hoa (by decide))
        have hG4 := grown_own hG3 hgN (fun g e => .inr (hlowa g e))
        clear hg5 hat5 hgN hoa hBe hel5
        refine hK.out _ _ hG4 ?_
        clear hK K
        obtain ⟨gb, rfl⟩ := own_some hob (by omega)
        have hcap := (own_row hob).2.2.2.1
        have hcapi : (nn : Int) ≤ cb := by omega
        repeat (first
          | (refine tree_skip rfl (by rfl) ?_; simp only [Act.put, List.setIfInBounds_toArray, List.set_cons_zero, List.set_cons_succ])
          | (refine tree_qE rfl (by rfl) ?_; apply Exists.intro; refine ⟨fun w' hc' => ?_, ?_⟩; (focus (go_simp; (try go_bits); (try simp only [↓IntWalk.iteOmega]); with_reducible rfl)); simp only [Act.put, List.setIfInBounds_toArray, List.set_cons_zero, List.set_cons_succ]))
        refine tree_e1 (tree_step rfl fun K hK => ?_)
        go_wp2_with (refine wpList_store_blk rfl 26 (.tmp 3) (.tmp 16) rfl hBu #[.slice (some ⟨gb, 0, none⟩) nn cb, .slice none 0 0] rfl rfl ((show (Try.prog.info? 26).map (·.size) = some 2 by kernel_rfl)) rfl (by simp [Value.oneCell']) ?_; intro w12 hBx hg12 hs12)
        replace hob := own_keep hob fun g o e => hg12.block g (own_lt2 (by rw [← e]; exact hob)).2.1 (fun e2 => hBu.ne_row hob (by decide) (by rw [← e2, e]; rfl))
        have hG5 := grown_own hG4 hg12 (fun g e => by injection e with e; subst e; exact .inr hNlu)
        replace hBu := hBx
        clear hBx hg12 hs12
        refine hK.out _ _ hG5 ?_
        clear hK K
        refine tree_end ?_
        have hGL := hG5
        go_wp2_with (fail)
        go_meet
        have hW0s := HW0s.out
        exact ⟨_, some ⟨gb, 0, none⟩, cb, rfl, by omega, hBu, hob, hB.grown hGL (by simp), hR.grown hGL (by simp), hb.trans (below_grown hGL hs (fun g e => by cases e))⟩
    · have hgN := World.grownBy_alloc (W0.drew) (.cells #[.string ByteArray.empty, .int .i64 (-71), .int .i64 0] 29) none
      have hBe : Blk (World.alloc (W0.drew) (.cells #[.string ByteArray.empty, .int .i64 (-71), .int .i64 0] 29)) (W0.heap.size) 29 #[.string ByteArray.empty, .int .i64 (-71), .int .i64 0] := by first | exact Blk.new (W0.drew) 29 #[.string ByteArray.empty, .int .i64 (-71), .int .i64 0] | (have h := Blk.new (W0.drew) 29 #[.string ByteArray.empty, .int .i64 (-71), .int .i64 0]; simp only [World.size_alloc] at h; exact h)
      go_wp2_with (fail)
      have hG1 := grown_trans hG0 (grown_any hgN)
      refine hK.out _ _ hG1 ?_
      clear hK K
      obtain ⟨Ne, hNe⟩ : ∃ N, (W0.heap.size) = N := ⟨_, rfl⟩
      have hNle : W0.heap.size ≤ W0.heap.size := by first | exact Nat.le_refl _ | exact hG0.size | (have h := hG0.size; simp only [World.size_alloc] at h; exact h)
      clear hNe Ne hgN
      refine tree_e2 (tree_step rfl fun K hK => ?_) (tree_step rfl fun K hK => ?_)
      · have hsz2 : w.heap.size ≤ (World.alloc (W0.drew) (.cells #[.string ByteArray.empty, .int .i64 (-71), .int .i64 0] 29)).heap.size := Nat.le_trans hs hG1.size
        go_wp2_with (at_builtin; refine wpList_append_sl rfl _ _ _ rfl Try.nodeT rfl (World.ownsRow_nil (World.alloc (W0.drew) (.cells #[.string ByteArray.empty, .int .i64 (-71), .int .i64 0] 29)) w.heap.size _ _) rfl (HS.out.below (hb.trans (below_grown hG1 hs (fun g e => by cases e))) (Nat.le_refl _)) (node_one nodes) (by unfold maxLen; omega) (by omega) hsz2 ?_; intro Aa ca w2 hoa hg2 hat2)
        simp only [Nat.zero_add, List.nil_append] at hoa ⊢
        have hgN : (World.alloc (W0.drew) (.cells #[.string ByteArray.empty, .int .i64 (-71), .int .i64 0] 29)).grownBy w2 none := hg2
        have hlowa : ∀ g, blkOf Aa = some g → W0.heap.size ≤ g := fun g e => (hat2 g e).elim (fun h => by cases h) (fun h => Nat.le_trans hG1.size h)
        replace hBe := hBe.grown hgN (by simp)
        have hG2 := grown_trans hG1 (grown_any hgN)
        clear hg2 hat2 hgN
        refine hK.out _ _ hG2 ?_
        clear hK K
        refine tree_e2 (tree_step rfl fun K hK => ?_) (tree_step rfl fun K hK => ?_)
        · have hsz5 : w.heap.size ≤ (w2).heap.size := Nat.le_trans hs hG2.size
          have hel5 : Sl (w2) (w2).heap.size 3 (some ⟨W0.heap.size, 0, none⟩) 1 ([.string ByteArray.empty, .int .i64 (-71), .int .i64 0]) := Sl.blk hBe rfl rfl hBe.lt
          go_wp2_with (at_builtin; refine wpList_append_sl rfl _ _ _ rfl Try.nodeT rfl hoa rfl hel5 (last_one _) (by unfold maxLen; omega) (by omega) hsz5 ?_; intro Ab cb w5 hob hg5 hat5)
          have hgN : (w2).grownBy w5 (blkOf Aa) := hg5
          have hlowb : ∀ g, blkOf Ab = some g → W0.heap.size ≤ g := fun g e => (hat5 g e).elim (fun h => hlowa g h) (fun h => Nat.le_trans hG2.size h)
          have hG3 := grown_own hG2 hgN (fun g e => .inr (hlowa g e))
          clear hg5 hat5 hgN hoa hBe hel5
          refine hK.out _ _ hG3 ?_
          clear hK K
          obtain ⟨gb, rfl⟩ := own_some hob (by omega)
          have hcap := (own_row hob).2.2.2.1
          have hcapi : (nn : Int) ≤ cb := by omega
          repeat (first
            | (refine tree_skip rfl (by rfl) ?_; simp only [Act.put, List.setIfInBounds_toArray, List.set_cons_zero, List.set_cons_succ])
            | (refine tree_qE rfl (by rfl) ?_; apply Exists.intro; refine ⟨fun w' hc' => ?_, ?_⟩; (focus (go_simp; (try go_bits); (try simp only [↓IntWalk.iteOmega]); with_reducible rfl)); simp only [Act.put, List.setIfInBounds_toArray, List.set_cons_zero, List.set_cons_succ]))
          refine tree_e1 (tree_step rfl fun K hK => ?_)
          have hgN := World.grownBy_alloc (w5) (.cells #[.slice none 0 0, .slice none 0 0] 26) none
          have hBu : Blk (World.alloc (w5) (.cells #[.slice none 0 0, .slice none 0 0] 26)) (w5.heap.size) 26 #[.slice none 0 0, .slice none 0 0] := by first | exact Blk.new (w5) 26 #[.slice none 0 0, .slice none 0 0] | (have h := Blk.new (w5) 26 #[.slice none 0 0, .slice none 0 0]; simp only [World.size_alloc] at h; exact h)
          have preb := hob
          replace hob := own_keep hob fun g o e => hgN.block g (own_lt2 (by rw [← e]; exact hob)).2.1 (by simp)
          go_wp2_with (fail)
          have hG4 := grown_trans hG3 (grown_any hgN)
          refine hK.out _ _ hG4 ?_
          clear hK K
          obtain ⟨Nu, hNu⟩ : ∃ N, (w5.heap.size) = N := ⟨_, rfl⟩
          have hNlu : W0.heap.size ≤ w5.heap.size := by first | exact Nat.le_refl _ | exact hG3.size | (have h := hG3.size; simp only [World.size_alloc] at h; exact h)
          clear hNu Nu hgN
          refine tree_e1 (tree_step rfl fun K hK => ?_)
          go_wp2_with (fail)
          have hgN := World.grownBy_alloc (w5) (.cells #[.slice (some ⟨gb, 0, none⟩) nn cb, .slice none 0 0] 26) none
          replace hBu : Blk (World.alloc (w5) (.cells #[.slice (some ⟨gb, 0, none⟩) nn cb, .slice none 0 0] 26)) (w5.heap.size) 26 #[.slice (some ⟨gb, 0, none⟩) nn cb, .slice none 0 0] := by first | exact Blk.new (w5) 26 #[.slice (some ⟨gb, 0, none⟩) nn cb, .slice none 0 0] | (have h := Blk.new (w5) 26 #[.slice (some ⟨gb, 0, none⟩) nn cb, .slice none 0 0]; simp only [World.size_alloc] at h; exact h)
          replace hob := own_keep preb fun g o e => hgN.block g (own_lt2 (by rw [← e]; exact preb)).2.1 (by simp)
          have hG5 := grown_trans hG3 (grown_any hgN)
          refine hK.out _ _ hG5 ?_
          clear hK K
          refine tree_end ?_
          have hGL := hG5
          go_wp2_with (fail)
          go_meet
          have hW0s := HW0s.out
          exact ⟨_, some ⟨gb, 0, none⟩, cb, rfl, by omega, hBu, hob, hB.grown hGL (by simp), hR.grown hGL (by simp), hb.trans (below_grown hGL hs (fun g e => by cases e))⟩
        · have hgN := World.grownBy_alloc (w2) (.cells #[.slice none 0 0, .slice none 0 0] 26) none
          have hBu : Blk (World.alloc (w2) (.cells #[.slice none 0 0, .slice none 0 0] 26)) (w2.heap.size) 26 #[.slice none 0 0, .slice none 0 0] := by first | exact Blk.new (w2) 26 #[.slice none 0 0, .slice none 0 0] | (have h := Blk.new (w2) 26 #[.slice none 0 0, .slice none 0 0]; simp only [World.size_alloc] at h; exact h)
          have pree := hBe
          have prea := hoa
          replace hBe := hBe.grown hgN (by simp)
          replace hoa := own_keep hoa fun g o e => hgN.block g (own_lt2 (by rw [← e]; exact hoa)).2.1 (by simp)
          go_wp2_with (fail)
          have hG3 := grown_trans hG2 (grown_any hgN)
          refine hK.out _ _ hG3 ?_
          clear hK K
          obtain ⟨Nu, hNu⟩ : ∃ N, (w2.heap.size) = N := ⟨_, rfl⟩
          have hNlu : W0.heap.size ≤ w2.heap.size := by first | exact Nat.le_refl _ | exact hG2.size | (have h := hG2.size; simp only [World.size_alloc] at h; exact h)
          clear hNu Nu hgN
          refine tree_e1 (tree_step rfl fun K hK => ?_)
          have hsz5 : w.heap.size ≤ (World.alloc (w2) (.cells #[.slice none 0 0, .slice none 0 0] 26)).heap.size := Nat.le_trans hs hG3.size
          have hel5 : Sl (World.alloc (w2) (.cells #[.slice none 0 0, .slice none 0 0] 26)) (World.alloc (w2) (.cells #[.slice none 0 0, .slice none 0 0] 26)).heap.size 3 (some ⟨W0.heap.size, 0, none⟩) 1 ([.string ByteArray.empty, .int .i64 (-71), .int .i64 0]) := Sl.blk hBe rfl rfl hBe.lt
          go_wp2_with (at_builtin; refine wpList_append_sl rfl _ _ _ rfl Try.nodeT rfl hoa rfl hel5 (last_one _) (by unfold maxLen; omega) (by omega) hsz5 ?_; intro Ab cb w5 hob hg5 hat5)
          have hgN : (World.alloc (w2) (.cells #[.slice none 0 0, .slice none 0 0] 26)).grownBy w5 (blkOf Aa) := hg5
          have hlowb : ∀ g, blkOf Ab = some g → W0.heap.size ≤ g := fun g e => (hat5 g e).elim (fun h => hlowa g h) (fun h => Nat.le_trans hG3.size h)
          replace hBu := hBu.grown hgN (hBu.ne_row hoa (by decide))
          have hG4 := grown_own hG3 hgN (fun g e => .inr (hlowa g e))
          clear hg5 hat5 hgN hoa hBe hel5
          refine hK.out _ _ hG4 ?_
          clear hK K
          obtain ⟨gb, rfl⟩ := own_some hob (by omega)
          have hcap := (own_row hob).2.2.2.1
          have hcapi : (nn : Int) ≤ cb := by omega
          repeat (first
            | (refine tree_skip rfl (by rfl) ?_; simp only [Act.put, List.setIfInBounds_toArray, List.set_cons_zero, List.set_cons_succ])
            | (refine tree_qE rfl (by rfl) ?_; apply Exists.intro; refine ⟨fun w' hc' => ?_, ?_⟩; (focus (go_simp; (try go_bits); (try simp only [↓IntWalk.iteOmega]); with_reducible rfl)); simp only [Act.put, List.setIfInBounds_toArray, List.set_cons_zero, List.set_cons_succ]))
          refine tree_e1 (tree_step rfl fun K hK => ?_)
          go_wp2_with (refine wpList_store_blk rfl 26 (.tmp 3) (.tmp 16) rfl hBu #[.slice (some ⟨gb, 0, none⟩) nn cb, .slice none 0 0] rfl rfl ((show (Try.prog.info? 26).map (·.size) = some 2 by kernel_rfl)) rfl (by simp [Value.oneCell']) ?_; intro w12 hBx hg12 hs12)
          replace hob := own_keep hob fun g o e => hg12.block g (own_lt2 (by rw [← e]; exact hob)).2.1 (fun e2 => hBu.ne_row hob (by decide) (by rw [← e2, e]; rfl))
          have hG5 := grown_own hG4 hg12 (fun g e => by injection e with e; subst e; exact .inr hNlu)
          replace hBu := hBx
          clear hBx hg12 hs12
          refine hK.out _ _ hG5 ?_
          clear hK K
          refine tree_end ?_
          have hGL := hG5
          go_wp2_with (fail)
          go_meet
          have hW0s := HW0s.out
          exact ⟨_, some ⟨gb, 0, none⟩, cb, rfl, by omega, hBu, hob, hB.grown hGL (by simp), hR.grown hGL (by simp), hb.trans (below_grown hGL hs (fun g e => by cases e))⟩
      · have hgN := World.grownBy_alloc (World.alloc (W0.drew) (.cells #[.string ByteArray.empty, .int .i64 (-71), .int .i64 0] 29)) (.cells #[.slice none 0 0, .slice none 0 0] 26) none
        have hBu : Blk (World.alloc (World.alloc (W0.drew) (.cells #[.string ByteArray.empty, .int .i64 (-71), .int .i64 0] 29)) (.cells #[.slice none 0 0, .slice none 0 0] 26)) ((W0.heap.size + 1)) 26 #[.slice none 0 0, .slice none 0 0] := by first | exact Blk.new (World.alloc (W0.drew) (.cells #[.string ByteArray.empty, .int .i64 (-71), .int .i64 0] 29)) 26 #[.slice none 0 0, .slice none 0 0] | (have h := Blk.new (World.alloc (W0.drew) (.cells #[.string ByteArray.empty, .int .i64 (-71), .int .i64 0] 29)) 26 #[.slice none 0 0, .slice none 0 0]; simp only [World.size_alloc] at h; exact h)
        have pree := hBe
        replace hBe := hBe.grown hgN (by simp)
        go_wp2_with (fail)
        have hG2 := grown_trans hG1 (grown_any hgN)
        refine hK.out _ _ hG2 ?_
        clear hK K
        obtain ⟨Nu, hNu⟩ : ∃ N, ((W0.heap.size + 1)) = N := ⟨_, rfl⟩
        have hNlu : W0.heap.size ≤ (W0.heap.size + 1) := by first | exact Nat.le_refl _ | exact hG1.size | (have h := hG1.size; simp only [World.size_alloc] at h; exact h)
        clear hNu Nu hgN
        refine tree_e1 (tree_step rfl fun K hK => ?_)
        have hsz2 : w.heap.size ≤ (World.alloc (World.alloc (W0.drew) (.cells #[.string ByteArray.empty, .int .i64 (-71), .int .i64 0] 29)) (.cells #[.slice none 0 0, .slice none 0 0] 26)).heap.size := Nat.le_trans hs hG2.size
        go_wp2_with (at_builtin; refine wpList_append_sl rfl _ _ _ rfl Try.nodeT rfl (World.ownsRow_nil (World.alloc (World.alloc (W0.drew) (.cells #[.string ByteArray.empty, .int .i64 (-71), .int .i64 0] 29)) (.cells #[.slice none 0 0, .slice none 0 0] 26)) w.heap.size _ _) rfl (HS.out.below (hb.trans (below_grown hG2 hs (fun g e => by cases e))) (Nat.le_refl _)) (node_one nodes) (by unfold maxLen; omega) (by omega) hsz2 ?_; intro Aa ca w2 hoa hg2 hat2)
        simp only [Nat.zero_add, List.nil_append] at hoa ⊢
        have hgN : (World.alloc (World.alloc (W0.drew) (.cells #[.string ByteArray.empty, .int .i64 (-71), .int .i64 0] 29)) (.cells #[.slice none 0 0, .slice none 0 0] 26)).grownBy w2 none := hg2
        have hlowa : ∀ g, blkOf Aa = some g → W0.heap.size ≤ g := fun g e => (hat2 g e).elim (fun h => by cases h) (fun h => Nat.le_trans hG2.size h)
        replace hBe := hBe.grown hgN (by simp)
        replace hBu := hBu.grown hgN (by simp)
        have hG3 := grown_trans hG2 (grown_any hgN)
        clear hg2 hat2 hgN
        refine hK.out _ _ hG3 ?_
        clear hK K
        refine tree_e1 (tree_step rfl fun K hK => ?_)
        have hsz5 : w.heap.size ≤ (w2).heap.size := Nat.le_trans hs hG3.size
        have hel5 : Sl (w2) (w2).heap.size 3 (some ⟨W0.heap.size, 0, none⟩) 1 ([.string ByteArray.empty, .int .i64 (-71), .int .i64 0]) := Sl.blk hBe rfl rfl hBe.lt
        go_wp2_with (at_builtin; refine wpList_append_sl rfl _ _ _ rfl Try.nodeT rfl hoa rfl hel5 (last_one _) (by unfold maxLen; omega) (by omega) hsz5 ?_; intro Ab cb w5 hob hg5 hat5)
        have hgN : (w2).grownBy w5 (blkOf Aa) := hg5
        have hlowb : ∀ g, blkOf Ab = some g → W0.heap.size ≤ g := fun g e => (hat5 g e).elim (fun h => hlowa g h) (fun h => Nat.le_trans hG3.size h)
        replace hBu := hBu.grown hgN (hBu.ne_row hoa (by decide))
        have hG4 := grown_own hG3 hgN (fun g e => .inr (hlowa g e))
        clear hg5 hat5 hgN hoa hBe hel5
        refine hK.out _ _ hG4 ?_
        clear hK K
        obtain ⟨gb, rfl⟩ := own_some hob (by omega)
        have hcap := (own_row hob).2.2.2.1
        have hcapi : (nn : Int) ≤ cb := by omega
        repeat (first
          | (refine tree_skip rfl (by rfl) ?_; simp only [Act.put, List.setIfInBounds_toArray, List.set_cons_zero, List.set_cons_succ])
          | (refine tree_qE rfl (by rfl) ?_; apply Exists.intro; refine ⟨fun w' hc' => ?_, ?_⟩; (focus (go_simp; (try go_bits); (try simp only [↓IntWalk.iteOmega]); with_reducible rfl)); simp only [Act.put, List.setIfInBounds_toArray, List.set_cons_zero, List.set_cons_succ]))
        refine tree_e1 (tree_step rfl fun K hK => ?_)
        go_wp2_with (refine wpList_store_blk rfl 26 (.tmp 3) (.tmp 16) rfl hBu #[.slice (some ⟨gb, 0, none⟩) nn cb, .slice none 0 0] rfl rfl ((show (Try.prog.info? 26).map (·.size) = some 2 by kernel_rfl)) rfl (by simp [Value.oneCell']) ?_; intro w12 hBx hg12 hs12)
        replace hob := own_keep hob fun g o e => hg12.block g (own_lt2 (by rw [← e]; exact hob)).2.1 (fun e2 => hBu.ne_row hob (by decide) (by rw [← e2, e]; rfl))
        have hG5 := grown_own hG4 hg12 (fun g e => by injection e with e; subst e; exact .inr hNlu)
        replace hBu := hBx
        clear hBx hg12 hs12
        refine hK.out _ _ hG5 ?_
        clear hK K
        refine tree_end ?_
        have hGL := hG5
        go_wp2_with (fail)
        go_meet
        have hW0s := HW0s.out
        exact ⟨_, some ⟨gb, 0, none⟩, cb, rfl, by omega, hBu, hob, hB.grown hGL (by simp), hR.grown hGL (by simp), hb.trans (below_grown hGL hs (fun g e => by cases e))⟩
    · have hgN := World.grownBy_alloc (W0.drew) (.cells #[.slice none 0 0, .slice none 0 0] 26) none
      have hBu : Blk (World.alloc (W0.drew) (.cells #[.slice none 0 0, .slice none 0 0] 26)) (W0.heap.size) 26 #[.slice none 0 0, .slice none 0 0] := by first | exact Blk.new (W0.drew) 26 #[.slice none 0 0, .slice none 0 0] | (have h := Blk.new (W0.drew) 26 #[.slice none 0 0, .slice none 0 0]; simp only [World.size_alloc] at h; exact h)
      go_wp2_with (fail)
      have hG1 := grown_trans hG0 (grown_any hgN)
      refine hK.out _ _ hG1 ?_
      clear hK K
      obtain ⟨Nu, hNu⟩ : ∃ N, (W0.heap.size) = N := ⟨_, rfl⟩
      have hNlu : W0.heap.size ≤ W0.heap.size := by first | exact Nat.le_refl _ | exact hG0.size | (have h := hG0.size; simp only [World.size_alloc] at h; exact h)
      clear hNu Nu hgN
      refine tree_e2 (tree_step rfl fun K hK => ?_) (tree_step rfl fun K hK => ?_)
      · have hsz2 : w.heap.size ≤ (World.alloc (W0.drew) (.cells #[.slice none 0 0, .slice none 0 0] 26)).heap.size := Nat.le_trans hs hG1.size
        go_wp2_with (at_builtin; refine wpList_append_sl rfl _ _ _ rfl Try.nodeT rfl (World.ownsRow_nil (World.alloc (W0.drew) (.cells #[.slice none 0 0, .slice none 0 0] 26)) w.heap.size _ _) rfl (HS.out.below (hb.trans (below_grown hG1 hs (fun g e => by cases e))) (Nat.le_refl _)) (node_one nodes) (by unfold maxLen; omega) (by omega) hsz2 ?_; intro Aa ca w2 hoa hg2 hat2)
        simp only [Nat.zero_add, List.nil_append] at hoa ⊢
        have hgN : (World.alloc (W0.drew) (.cells #[.slice none 0 0, .slice none 0 0] 26)).grownBy w2 none := hg2
        have hlowa : ∀ g, blkOf Aa = some g → W0.heap.size ≤ g := fun g e => (hat2 g e).elim (fun h => by cases h) (fun h => Nat.le_trans hG1.size h)
        replace hBu := hBu.grown hgN (by simp)
        have hG2 := grown_trans hG1 (grown_any hgN)
        clear hg2 hat2 hgN
        refine hK.out _ _ hG2 ?_
        clear hK K
        refine tree_e1 (tree_step rfl fun K hK => ?_)
        have hgN := World.grownBy_alloc (w2) (.cells #[.string ByteArray.empty, .int .i64 (-71), .int .i64 0] 29) none
        have hBe : Blk (World.alloc (w2) (.cells #[.string ByteArray.empty, .int .i64 (-71), .int .i64 0] 29)) (w2.heap.size) 29 #[.string ByteArray.empty, .int .i64 (-71), .int .i64 0] := by first | exact Blk.new (w2) 29 #[.string ByteArray.empty, .int .i64 (-71), .int .i64 0] | (have h := Blk.new (w2) 29 #[.string ByteArray.empty, .int .i64 (-71), .int .i64 0]; simp only [World.size_alloc] at h; exact h)
        have preu := hBu
        have prea := hoa
        replace hBu := hBu.grown hgN (by simp)
        replace hoa := own_keep hoa fun g o e => hgN.block g (own_lt2 (by rw [← e]; exact hoa)).2.1 (by simp)
        go_wp2_with (fail)
        have hG3 := grown_trans hG2 (grown_any hgN)
        refine hK.out _ _ hG3 ?_
        clear hK K
        obtain ⟨Ne, hNe⟩ : ∃ N, (w2.heap.size) = N := ⟨_, rfl⟩
        have hNle : W0.heap.size ≤ w2.heap.size := by first | exact Nat.le_refl _ | exact hG2.size | (have h := hG2.size; simp only [World.size_alloc] at h; exact h)
        clear hNe Ne hgN
        refine tree_e1 (tree_step rfl fun K hK => ?_)
        have hsz5 : w.heap.size ≤ (World.alloc (w2) (.cells #[.string ByteArray.empty, .int .i64 (-71), .int .i64 0] 29)).heap.size := Nat.le_trans hs hG3.size
        have hel5 : Sl (World.alloc (w2) (.cells #[.string ByteArray.empty, .int .i64 (-71), .int .i64 0] 29)) (World.alloc (w2) (.cells #[.string ByteArray.empty, .int .i64 (-71), .int .i64 0] 29)).heap.size 3 (some ⟨w2.heap.size, 0, none⟩) 1 ([.string ByteArray.empty, .int .i64 (-71), .int .i64 0]) := Sl.blk hBe rfl rfl hBe.lt
        go_wp2_with (at_builtin; refine wpList_append_sl rfl _ _ _ rfl Try.nodeT rfl hoa rfl hel5 (last_one _) (by unfold maxLen; omega) (by omega) hsz5 ?_; intro Ab cb w5 hob hg5 hat5)
        have hgN : (World.alloc (w2) (.cells #[.string ByteArray.empty, .int .i64 (-71), .int .i64 0] 29)).grownBy w5 (blkOf Aa) := hg5
        have hlowb : ∀ g, blkOf Ab = some g → W0.heap.size ≤ g := fun g e => (hat5 g e).elim (fun h => hlowa g h) (fun h => Nat.le_trans hG3.size h)
        replace hBu := hBu.grown hgN (hBu.ne_row hoa (by decide))
        have hG4 := grown_own hG3 hgN (fun g e => .inr (hlowa g e))
        clear hg5 hat5 hgN hoa hBe hel5
        refine hK.out _ _ hG4 ?_
        clear hK K
        obtain ⟨gb, rfl⟩ := own_some hob (by omega)
        have hcap := (own_row hob).2.2.2.1
        have hcapi : (nn : Int) ≤ cb := by omega
        repeat (first
          | (refine tree_skip rfl (by rfl) ?_; simp only [Act.put, List.setIfInBounds_toArray, List.set_cons_zero, List.set_cons_succ])
          | (refine tree_qE rfl (by rfl) ?_; apply Exists.intro; refine ⟨fun w' hc' => ?_, ?_⟩; (focus (go_simp; (try go_bits); (try simp only [↓IntWalk.iteOmega]); with_reducible rfl)); simp only [Act.put, List.setIfInBounds_toArray, List.set_cons_zero, List.set_cons_succ]))
        refine tree_e1 (tree_step rfl fun K hK => ?_)
        go_wp2_with (refine wpList_store_blk rfl 26 (.tmp 3) (.tmp 16) rfl hBu #[.slice (some ⟨gb, 0, none⟩) nn cb, .slice none 0 0] rfl rfl ((show (Try.prog.info? 26).map (·.size) = some 2 by kernel_rfl)) rfl (by simp [Value.oneCell']) ?_; intro w12 hBx hg12 hs12)
        replace hob := own_keep hob fun g o e => hg12.block g (own_lt2 (by rw [← e]; exact hob)).2.1 (fun e2 => hBu.ne_row hob (by decide) (by rw [← e2, e]; rfl))
        have hG5 := grown_own hG4 hg12 (fun g e => by injection e with e; subst e; exact .inr hNlu)
        replace hBu := hBx
        clear hBx hg12 hs12
        refine hK.out _ _ hG5 ?_
        clear hK K
        refine tree_end ?_
        have hGL := hG5
        go_wp2_with (fail)
        go_meet
        have hW0s := HW0s.out
        exact ⟨_, some ⟨gb, 0, none⟩, cb, rfl, by omega, hBu, hob, hB.grown hGL (by simp), hR.grown hGL (by simp), hb.trans (below_grown hGL hs (fun g e => by cases e))⟩
      · have hgN := World.grownBy_alloc (World.alloc (W0.drew) (.cells #[.slice none 0 0, .slice none 0 0] 26)) (.cells #[.string ByteArray.empty, .int .i64 (-71), .int .i64 0] 29) none
        have hBe : Blk (World.alloc (World.alloc (W0.drew) (.cells #[.slice none 0 0, .slice none 0 0] 26)) (.cells #[.string ByteArray.empty, .int .i64 (-71), .int .i64 0] 29)) ((W0.heap.size + 1)) 29 #[.string ByteArray.empty, .int .i64 (-71), .int .i64 0] := by first | exact Blk.new (World.alloc (W0.drew) (.cells #[.slice none 0 0, .slice none 0 0] 26)) 29 #[.string ByteArray.empty, .int .i64 (-71), .int .i64 0] | (have h := Blk.new (World.alloc (W0.drew) (.cells #[.slice none 0 0, .slice none 0 0] 26)) 29 #[.string ByteArray.empty, .int .i64 (-71), .int .i64 0]; simp only [World.size_alloc] at h; exact h)
        have preu := hBu
        replace hBu := hBu.grown hgN (by simp)
        go_wp2_with (fail)
        have hG2 := grown_trans hG1 (grown_any hgN)
        refine hK.out _ _ hG2 ?_
        clear hK K
        obtain ⟨Ne, hNe⟩ : ∃ N, ((W0.heap.size + 1)) = N := ⟨_, rfl⟩
        have hNle : W0.heap.size ≤ (W0.heap.size + 1) := by first | exact Nat.le_refl _ | exact hG1.size | (have h := hG1.size; simp only [World.size_alloc] at h; exact h)
        clear hNe Ne hgN
        refine tree_e1 (tree_step rfl fun K hK => ?_)
        have hsz2 : w.heap.size ≤ (World.alloc (World.alloc (W0.drew) (.cells #[.slice none 0 0, .slice none 0 0] 26)) (.cells #[.string ByteArray.empty, .int .i64 (-71), .int .i64 0] 29)).heap.size := Nat.le_trans hs hG2.size
        go_wp2_with (at_builtin; refine wpList_append_sl rfl _ _ _ rfl Try.nodeT rfl (World.ownsRow_nil (World.alloc (World.alloc (W0.drew) (.cells #[.slice none 0 0, .slice none 0 0] 26)) (.cells #[.string ByteArray.empty, .int .i64 (-71), .int .i64 0] 29)) w.heap.size _ _) rfl (HS.out.below (hb.trans (below_grown hG2 hs (fun g e => by cases e))) (Nat.le_refl _)) (node_one nodes) (by unfold maxLen; omega) (by omega) hsz2 ?_; intro Aa ca w2 hoa hg2 hat2)
        simp only [Nat.zero_add, List.nil_append] at hoa ⊢
        have hgN : (World.alloc (World.alloc (W0.drew) (.cells #[.slice none 0 0, .slice none 0 0] 26)) (.cells #[.string ByteArray.empty, .int .i64 (-71), .int .i64 0] 29)).grownBy w2 none := hg2
        have hlowa : ∀ g, blkOf Aa = some g → W0.heap.size ≤ g := fun g e => (hat2 g e).elim (fun h => by cases h) (fun h => Nat.le_trans hG2.size h)
        replace hBu := hBu.grown hgN (by simp)
        replace hBe := hBe.grown hgN (by simp)
        have hG3 := grown_trans hG2 (grown_any hgN)
        clear hg2 hat2 hgN
        refine hK.out _ _ hG3 ?_
        clear hK K
        refine tree_e1 (tree_step rfl fun K hK => ?_)
        have hsz5 : w.heap.size ≤ (w2).heap.size := Nat.le_trans hs hG3.size
        have hel5 : Sl (w2) (w2).heap.size 3 (some ⟨(W0.heap.size + 1), 0, none⟩) 1 ([.string ByteArray.empty, .int .i64 (-71), .int .i64 0]) := Sl.blk hBe rfl rfl hBe.lt
        go_wp2_with (at_builtin; refine wpList_append_sl rfl _ _ _ rfl Try.nodeT rfl hoa rfl hel5 (last_one _) (by unfold maxLen; omega) (by omega) hsz5 ?_; intro Ab cb w5 hob hg5 hat5)
        have hgN : (w2).grownBy w5 (blkOf Aa) := hg5
        have hlowb : ∀ g, blkOf Ab = some g → W0.heap.size ≤ g := fun g e => (hat5 g e).elim (fun h => hlowa g h) (fun h => Nat.le_trans hG3.size h)
        replace hBu := hBu.grown hgN (hBu.ne_row hoa (by decide))
        have hG4 := grown_own hG3 hgN (fun g e => .inr (hlowa g e))
        clear hg5 hat5 hgN hoa hBe hel5
        refine hK.out _ _ hG4 ?_
        clear hK K
        obtain ⟨gb, rfl⟩ := own_some hob (by omega)
        have hcap := (own_row hob).2.2.2.1
        have hcapi : (nn : Int) ≤ cb := by omega
        repeat (first
          | (refine tree_skip rfl (by rfl) ?_; simp only [Act.put, List.setIfInBounds_toArray, List.set_cons_zero, List.set_cons_succ])
          | (refine tree_qE rfl (by rfl) ?_; apply Exists.intro; refine ⟨fun w' hc' => ?_, ?_⟩; (focus (go_simp; (try go_bits); (try simp only [↓IntWalk.iteOmega]); with_reducible rfl)); simp only [Act.put, List.setIfInBounds_toArray, List.set_cons_zero, List.set_cons_succ]))
        refine tree_e1 (tree_step rfl fun K hK => ?_)
        go_wp2_with (refine wpList_store_blk rfl 26 (.tmp 3) (.tmp 16) rfl hBu #[.slice (some ⟨gb, 0, none⟩) nn cb, .slice none 0 0] rfl rfl ((show (Try.prog.info? 26).map (·.size) = some 2 by kernel_rfl)) rfl (by simp [Value.oneCell']) ?_; intro w12 hBx hg12 hs12)
        replace hob := own_keep hob fun g o e => hg12.block g (own_lt2 (by rw [← e]; exact hob)).2.1 (fun e2 => hBu.ne_row hob (by decide) (by rw [← e2, e]; rfl))
        have hG5 := grown_own hG4 hg12 (fun g e => by injection e with e; subst e; exact .inr hNlu)
        replace hBu := hBx
        clear hBx hg12 hs12
        refine hK.out _ _ hG5 ?_
        clear hK K
        refine tree_end ?_
        have hGL := hG5
        go_wp2_with (fail)
        go_meet
        have hW0s := HW0s.out
        exact ⟨_, some ⟨gb, 0, none⟩, cb, rfl, by omega, hBu, hob, hB.grown hGL (by simp), hR.grown hGL (by simp), hb.trans (below_grown hGL hs (fun g e => by cases e))⟩
  case rest =>
    clear hB hR hb hs b0 b1 hBl hRl HW0s
    obtain ⟨ub, A, c, rfl, hub, hU, hoN, hB, hR, hb⟩ := hcut
    have h0 : LentF w wc #[.slice NA nn nc, .slice FA fn fc] ub A nn c nodes files ds 0 := ⟨none, 0, [], hU, hoN, World.ownsRow_nil _ _ _ _, rfl, rfl, fun k f d hf => (by simp at hf), hB, hR, hb⟩
    have H0 := Lib.hid h0
    clear h0 hU hoN hB hR hb
    go_wp2
    go_loopw [4] (fun v wr => ∃ j : Nat, j ≤ fn ∧ v = .int .i64 j ∧ LentF w wr #[.slice NA nn nc, .slice FA fn fc] ub A nn c nodes files ds j) (fun v _ => fn - (intOf v).toNat)
    case atStart => exact ⟨0, Nat.zero_le _, rfl, H0.out⟩
    case round =>
      clear H0
      obtain ⟨j, hj, rfl, FB, fd, gs, hU, hoN, hoF, hgl, hgm, hrow, hB, hR, hb⟩ := hrel
      have HoN := Lib.hid hoN; have HoF := Lib.hid hoF; have Hgl := Lib.hid hgl; have Hgm := Lib.hid hgm; have Hrow := Lib.hid hrow
      clear hoN hoF hgl hgm hrow
      have b1 := hB.cell 1
      have hs := hb.size
      by_cases hlt : j < fn
      · have hki : (j : Int) < fn := by omega
        obtain ⟨xb, xo, x, rfl, hxb, hx, hc⟩ := (HFS.out.below hb (Nat.le_refl _)).get FC.len Hfl.out hlt
        obtain ⟨d, hdx, hdn, hds⟩ := HD.out.get hx
        have c0 := hc 0 _ rfl
        have c1 := hc 1 _ rfl
        simp only [Nat.add_zero] at c0 c1
        have hxn : x.n ≤ 2000000 := HSM.out x (List.mem_of_getElem? hx)
        have Hx := Lib.hid hx; have Hdx := Lib.hid hdx; have Hdn := Lib.hid hdn; have Hds := Lib.hid hds
        clear hc hx hdx hdn hds
        go_upto_region 6 with (first | (at_builtin; refine wpList_append_sl (L2 := bytesC d) (m := x.n) rfl _ _ _ rfl Try.u8T rfl (World.ownsRow_nil wr w.heap.size _ _) rfl (Hds.out.below hb (Nat.le_refl _)) (bytesC_one d) (by unfold maxLen; omega) (by omega) hs ?_; intro A4 c4 w4 ho4 hg4 hat4; simp only [Nat.zero_add, List.nil_append] at ho4 ⊢) | (at_builtin; refine wpList_append_one rfl _ _ _ rfl Try.u8T rfl ho4 #[.int .u8 167] rfl (by first | rfl | simp) rfl (by simp [Value.oneCell']) (by unfold maxLen; omega) (by omega) (Nat.le_trans hs hg4.size) ?_; intro g5 c5 w5 ho5 hg5 hat5))
        have hgw : wr.grownBy w5 none := grown_own (show wr.grownBy w4 none from hg4) hg5 (fun g e => (hat4 g e).imp (fun h => by cases h) (fun h => h))
        have hlow5 : wr.heap.size ≤ g5 := by
          rcases hat5 with h | h
          · rcases hat4 g5 h with h2 | h2
            · cases h2
            · exact h2
          · have := hg4.size; omega
        have hU5 := hU.grown hgw (by simp)
        have hB5 := hB.grown hgw (by simp)
        have hR5 := hR.grown hgw (by simp)
        have hb5 := hb.trans (below_grown hgw hs (fun g e => by cases e))
        have HoN5 := Lib.hid (own_keep HoN.out fun g o e => hgw.block g (own_lt2 (by rw [← e]; exact HoN.out)).2.1 (by simp))
        have HoF5 := Lib.hid (own_keep HoF.out fun g o e => hgw.block g (own_lt2 (by rw [← e]; exact HoF.out)).2.1 (by simp))
        have hcap := (own_row ho5).2.2.2.1
        have hcapi : (x.n : Int) ≤ c5 := by omega
        have Ho5 := Lib.hid ho5
        have Hgw := Lib.hid hgw
        clear hU hB hR hb HoN hg4 hg5 hat4 hat5 ho4 ho5 hgw c0 c1 b1
        have hs5 := hb5.size
        obtain ⟨xb', xo', x', hA', hxb', hx', hc'⟩ := (HFS.out.below hb5 (Nat.le_refl _)).get FC.len Hfl.out hlt
        obtain rfl : x = x' := by have := Hx.out; rw [this] at hx'; exact Option.some.inj hx'
        injection hA' with hA'
        injection hA' with e1 e2
        subst e1 e2
        have c0 := hc' 0 _ rfl
        simp only [Nat.add_zero] at c0
        clear hc' hx' hxb'
        have u1 := hU5.cell 1
        have b1 := hB5.cell 1
        have hUl := hU5.lt; have hBl := hB5.lt
        have hxw : xb < w5.heap.size := by omega
        have hneU : ¬ some ub = blkOf FB := hU5.ne_row HoF5.out (by decide)
        have hneB : ¬ some w.heap.size = blkOf FB := hB5.ne_row HoF5.out (by decide)
        have hneX : ¬ some xb = blkOf FB := fun e => by have := own_blk1 HoF5.out xb e.symm; omega
        refine wp_region_ordG (blkOf FB) [(0, true), (1, true), (2, true), (3, true), (4, true), (5, true), (6, true), (7, true), (8, true), (9, true), (10, true), (11, true), (12, true), (13, true), (14, false), (15, false), (16, true)] 17 (by kernel_rfl) (by kernel_rfl) fun hG0 => ?_
        repeat (first
          | (refine ord_skipB rfl (by rfl) ?_; simp only [Act.put, List.setIfInBounds_toArray, List.set_cons_zero, List.set_cons_succ])
          | (refine ord_qE rfl (by rfl) ?_; apply Exists.intro; refine ⟨fun w' hc' => ?_, ?_⟩; (focus (go_simp; (try go_bits); (try simp only [↓IntWalk.iteOmega]); with_reducible rfl)); simp only [Act.put, List.setIfInBounds_toArray, List.set_cons_zero, List.set_cons_succ]))
        refine ord_eB rfl fun K hK => ?_
        go_wp2_with (fail)
        have hG1 := grown_trans hG0 (World.grownBy_alloc w5.drew (.cells #[.int .i64 x.mode, .slice (some ⟨g5, 0, none⟩) x.n c5] 39) (blkOf FB))
        refine hK.out _ _ hG1 ?_
        clear hK K
        repeat (first
          | (refine ord_skipB rfl (by rfl) ?_; simp only [Act.put, List.setIfInBounds_toArray, List.set_cons_zero, List.set_cons_succ])
          | (refine ord_qE rfl (by rfl) ?_; apply Exists.intro; refine ⟨fun w' hc' => ?_, ?_⟩; (focus (go_simp; (try go_bits); (try simp only [↓IntWalk.iteOmega]); with_reducible rfl)); simp only [Act.put, List.setIfInBounds_toArray, List.set_cons_zero, List.set_cons_succ]))
        refine ord_eB rfl fun K hK => ?_
        go_wp2_with (at_builtin; refine wpList_append_one (w := w5.drew) rfl _ _ _ rfl Try.fileT rfl (own_drew HoF5.out) #[.int .i64 x.mode, .slice (some ⟨g5, 0, none⟩) x.n c5] rfl (by simp) rfl (file_one _ _ _ _) (by unfold maxLen; omega) (by omega) hs5 ?_; intro g6 c6 w6 ho6 hg6 hat6)
        have hG2 := grown_trans hG0 hg6
        refine hK.out _ _ hG2 ?_
        clear hK K
        repeat (first
          | (refine ord_skipB rfl (by rfl) ?_; simp only [Act.put, List.setIfInBounds_toArray, List.set_cons_zero, List.set_cons_succ])
          | (refine ord_qE rfl (by rfl) ?_; apply Exists.intro; refine ⟨fun w' hc' => ?_, ?_⟩; (focus (go_simp; (try go_bits); (try simp only [↓IntWalk.iteOmega]); with_reducible rfl)); simp only [Act.put, List.setIfInBounds_toArray, List.set_cons_zero, List.set_cons_succ]))
        have hU6 := hU5.grown hG2 hneU
        have q1 := hU6.cell 1
        have q1f := hU6.frozen 1
        refine ord_tail rfl fun K hK => ?_
        go_wp2_with (fail)
        refine hK.out _ _ ?_
        clear hK K
        have hB6 := hB5.grown hG2 hneB
        have hR6 := hR5.grown hG2 (hR5.ne_row HoF5.out (by decide))
        have hb6 := hb5.trans (below_grown hG2 hs5 (fun g e => own_blk1 HoF5.out g e))
        have HN6 := Lib.hid (own_keep HoN5.out fun g o e => hG2.block g (own_lt2 (by rw [← e]; exact HoN5.out)).2.1 (row_ne_row HoN5.out HoF5.out (by decide) (by rw [e]; rfl)))
        have keep8 : ∀ {g n c : Nat} {L : List Value}, w5.ownsRow w.heap.size 5 1 (.slice (some ⟨g, 0, none⟩) n c) n L → (w6.setCell ⟨ub, 1, none⟩ (.slice (some ⟨g6, 0, none⟩) (j + 1) c6)).ownsRow w.heap.size 5 1 (.slice (some ⟨g, 0, none⟩) n c) n L := fun {g n c L} ho =>
          own_blkset (own_keep ho fun g' o e => hG2.block g' (own_lt2 (by rw [← e]; exact ho)).2.1 (row_ne_row ho HoF5.out (by decide) (by rw [e]; rfl))) hU6 (by decide) 1 _
        have hrow' : ∀ (k : Nat) (f : FC) (d' : ByteArray), (gs ++ [(⟨x.mode, some ⟨g5, 0, none⟩, x.n, c5⟩ : FC)])[k]? = some f → ds[k]? = some d' → f.n = d'.size ∧ ∃ g, f.A = some ⟨g, 0, none⟩ ∧ (w6.setCell ⟨ub, 1, none⟩ (.slice (some ⟨g6, 0, none⟩) (j + 1) c6)).ownsRow w.heap.size 5 1 (.slice (some ⟨g, 0, none⟩) (f.n + 1) f.c) (f.n + 1) (bytesC d' ++ [.int .u8 167]) := fun k f d' hk hd' => by
          rcases Nat.lt_trichotomy k gs.length with h | h | h
          · rw [List.getElem?_append_left h] at hk
            obtain ⟨h1, g, h2, h3⟩ := Hrow.out k f d' hk hd'
            exact ⟨h1, g, h2, keep8 (own_keep h3 fun g' o e => Hgw.out.block g' (own_lt2 (by rw [← e]; exact h3)).2.1 (by simp))⟩
          · subst h
            rw [List.getElem?_append_right (Nat.le_refl _), Nat.sub_self] at hk
            simp only [List.getElem?_cons_zero, Option.some.injEq] at hk
            subst hk
            rw [Hgl.out, Hdx.out] at hd'
            injection hd' with hd'
            subst hd'
            exact ⟨Hdn.out.symm, g5, rfl, keep8 Ho5.out⟩
          · rw [List.getElem?_eq_none (by simp; omega)] at hk; cases hk
        have Hrow' := Lib.hid hrow'
        have Hls := Lib.hid (show (gs ++ [(⟨x.mode, some ⟨g5, 0, none⟩, x.n, c5⟩ : FC)]).flatMap FC.list = gs.flatMap FC.list ++ [.int .i64 x.mode, .slice (some ⟨g5, 0, none⟩) x.n c5] by simp [FC.list])
        have Hms := Lib.hid (show (gs ++ [(⟨x.mode, some ⟨g5, 0, none⟩, x.n, c5⟩ : FC)]).map (·.mode) = (files.take (j + 1)).map (·.mode) by rw [take_snoc' Hx.out, List.map_append, List.map_append, Hgm.out]; rfl)
        have Ho6 := Lib.hid ho6
        clear keep8 hrow' ho6 hg6 hat6 hG0 hG1 hG2 q1 q1f u1 b1 c0
        go_wp2
        go_roundw
        case rel => exact ⟨j + 1, by omega, by go_num, some ⟨g6, 0, none⟩, c6, _, hU6.set 1 _, own_blkset HN6.out hU6 (by decide) _ _, by rw [Hls.out]; exact own_blkset Ho6.out hU6 (by decide) _ _, by rw [List.length_append, Hgl.out]; rfl, Hms.out, Hrow'.out, hB6.set_ne _ _ (by show w.heap.size ≠ ub; omega), hR6.set_ne _ _ (by show w.heap.size + 1 ≠ ub; omega), hb6.setCell (p := ⟨ub, 1, none⟩) (by show w.heap.size ≤ ub; omega) _⟩
        case measure => simp [intOf]; omega
      · obtain rfl : j = fn := by omega
        have hki : ¬ (j : Int) < j := by omega
        have u1 := hU.cell 1
        have hUl := hU.lt; have hBl := hB.lt
        have hneU : ¬ some ub = blkOf FB := hU.ne_row HoF.out (by decide)
        have hneB : ¬ some w.heap.size = blkOf FB := hB.ne_row HoF.out (by decide)
        go_upto_region 7 with (fail)
        refine wp_region_ordG (blkOf FB) [(0, true), (1, true), (2, true), (5, true), (6, true), (7, true), (3, false), (4, false), (8, true), (9, true)] 10 (by kernel_rfl) (by kernel_rfl) fun hG0 => ?_
        repeat (first
          | (refine ord_skipB rfl (by rfl) ?_; simp only [Act.put, List.setIfInBounds_toArray, List.set_cons_zero, List.set_cons_succ])
          | (refine ord_qE rfl (by rfl) ?_; apply Exists.intro; refine ⟨fun w' hc' => ?_, ?_⟩; (focus (go_simp; (try go_bits); (try simp only [↓IntWalk.iteOmega]); with_reducible rfl)); simp only [Act.put, List.setIfInBounds_toArray, List.set_cons_zero, List.set_cons_succ]))
        refine ord_eB rfl fun K hK => ?_
        go_wp2_with (fail)
        have hG1 := grown_trans hG0 (World.grownBy_alloc wr.drew (.cells #[.int .i64 (-72), .slice none 0 0] 39) (blkOf FB))
        refine hK.out _ _ hG1 ?_
        clear hK K
        repeat (first
          | (refine ord_skipB rfl (by rfl) ?_; simp only [Act.put, List.setIfInBounds_toArray, List.set_cons_zero, List.set_cons_succ])
          | (refine ord_qE rfl (by rfl) ?_; apply Exists.intro; refine ⟨fun w' hc' => ?_, ?_⟩; (focus (go_simp; (try go_bits); (try simp only [↓IntWalk.iteOmega]); with_reducible rfl)); simp only [Act.put, List.setIfInBounds_toArray, List.set_cons_zero, List.set_cons_succ]))
        refine ord_eB rfl fun K hK => ?_
        go_wp2_with (at_builtin; refine wpList_append_one (w := wr.drew) rfl _ _ _ rfl Try.fileT rfl (own_drew HoF.out) #[.int .i64 (-72), .slice none 0 0] rfl (by simp) rfl (file_one _ _ _ _) (by unfold maxLen; omega) (by omega) hs ?_; intro g6 c6 w6 ho6 hg6 hat6)
        have hG2 := grown_trans hG0 hg6
        refine hK.out _ _ hG2 ?_
        clear hK K
        repeat (first
          | (refine ord_skipB rfl (by rfl) ?_; simp only [Act.put, List.setIfInBounds_toArray, List.set_cons_zero, List.set_cons_succ])
          | (refine ord_qE rfl (by rfl) ?_; apply Exists.intro; refine ⟨fun w' hc' => ?_, ?_⟩; (focus (go_simp; (try go_bits); (try simp only [↓IntWalk.iteOmega]); with_reducible rfl)); simp only [Act.put, List.setIfInBounds_toArray, List.set_cons_zero, List.set_cons_succ]))
        have hcap := (own_row ho6).2.2.2.1
        have hcapi : (j : Int) ≤ c6 := by omega
        repeat (first
          | (refine ord_skipB rfl (by rfl) ?_; simp only [Act.put, List.setIfInBounds_toArray, List.set_cons_zero, List.set_cons_succ])
          | (refine ord_qE rfl (by rfl) ?_; apply Exists.intro; refine ⟨fun w' hc' => ?_, ?_⟩; (focus (go_simp; (try go_bits); (try simp only [↓IntWalk.iteOmega]); with_reducible rfl)); simp only [Act.put, List.setIfInBounds_toArray, List.set_cons_zero, List.set_cons_succ]))
        have hU6 := hU.grown hG2 hneU
        have q1 := hU6.cell 1
        have q1f := hU6.frozen 1
        refine ord_tail rfl fun K hK => ?_
        go_wp2_with (fail)
        refine hK.out _ _ ?_
        clear hK K
        have hU7 : Blk (w6.setCell ⟨ub, 1, none⟩ (.slice (some ⟨g6, 0, none⟩) j c6)) ub 26 #[.slice A nn c, .slice (some ⟨g6, 0, none⟩) j c6] := hU6.set 1 _
        have hR7 := (hR.grown hG2 (hR.ne_row HoF.out (by decide))).set_ne ⟨ub, 1, none⟩ (.slice (some ⟨g6, 0, none⟩) j c6) (by show w.heap.size + 1 ≠ ub; omega)
        have hb7 := (hb.trans (below_grown hG2 hs (fun g e => own_blk1 HoF.out g e))).setCell (p := ⟨ub, 1, none⟩) (by show w.heap.size ≤ ub; omega) (.slice (some ⟨g6, 0, none⟩) j c6)
        have hF7 := own_blkset ho6 hU6 (by decide) 1 (.slice (some ⟨g6, 0, none⟩) j c6)
        have keep7 : ∀ {e sz n c' : Nat} {A' : Option Addr} {L : List Value}, e ≠ 39 → e ≠ 26 → wr.ownsRow w.heap.size e sz (.slice A' n c') n L → (w6.setCell ⟨ub, 1, none⟩ (.slice (some ⟨g6, 0, none⟩) j c6)).ownsRow w.heap.size e sz (.slice A' n c') n L := fun {e sz n c' A' L} h1 h2 ho =>
          own_blkset (own_keep ho fun g' o e => hG2.block g' (own_lt2 (by rw [← e]; exact ho)).2.1 (row_ne_row ho HoF.out h1 (by rw [e]; rfl))) hU6 (fun e => h2 e.symm) 1 _
        obtain ⟨V, hV⟩ : ∃ V, w6.setCell ⟨ub, 1, none⟩ (.slice (some ⟨g6, 0, none⟩) j c6) = V := ⟨_, rfl⟩
        rw [hV] at hU7 hR7 hb7 hF7 ⊢
        have keep8 : ∀ {e sz n c' : Nat} {A' : Option Addr} {L : List Value}, e ≠ 39 → e ≠ 26 → wr.ownsRow w.heap.size e sz (.slice A' n c') n L → V.ownsRow w.heap.size e sz (.slice A' n c') n L := fun h1 h2 ho => hV ▸ keep7 h1 h2 ho
        have v0 := hU7.cell 0; have v1 := hU7.cell 1
        have HF7 := Lib.hid hF7
        have Hk8 := Lib.hid (show ∀ (e sz n c' : Nat) (A' : Option Addr) (L : List Value), e ≠ 39 → e ≠ 26 → wr.ownsRow w.heap.size e sz (.slice A' n c') n L → V.ownsRow w.heap.size e sz (.slice A' n c') n L from fun e sz n c' A' L h1 h2 ho => keep8 h1 h2 ho)
        clear keep7 keep8 hV q1 q1f ho6 hg6 hat6 hG0 hG1 hG2 u1 b1 hF7
        go_wp2_with (refine wpList_store_blk rfl 26 (.tmp 2) (.tmp 60) rfl hR7 #[.slice A nn c, .slice (some ⟨g6, 0, none⟩) j c6] rfl rfl (by kernel_rfl) rfl (by simp [Value.oneCell']) ?_; intro w9 hB9 hg9 hs9)
        have keep9 : ∀ {e sz n c' : Nat} {A' : Option Addr} {L : List Value}, e ≠ 26 → V.ownsRow w.heap.size e sz (.slice A' n c') n L → w9.ownsRow w.heap.size e sz (.slice A' n c') n L := fun {e sz n c' A' L} h1 ho =>
          own_keep ho fun g' o e => hg9.block g' (own_lt2 (by rw [← e]; exact ho)).2.1 (fun e2 => hR7.ne_row ho (fun e => h1 e.symm) (by rw [← e2, e]; rfl))
        have hN9 := keep9 (by decide) (Hk8.out _ _ _ _ _ _ (by decide) (by decide) HoN.out)
        have hF9 := keep9 (by decide) HF7.out
        have hrow9 : ∀ (k : Nat) (f : FC) (d : ByteArray), gs[k]? = some f → ds[k]? = some d → f.n = d.size ∧ ∃ g, f.A = some ⟨g, 0, none⟩ ∧ w9.ownsRow w.heap.size 5 1 (.slice (some ⟨g, 0, none⟩) (f.n + 1) f.c) (f.n + 1) (bytesC d ++ [.int .u8 167]) := fun k f d hf hd => by
          obtain ⟨h1, g, h2, h3⟩ := Hrow.out k f d hf hd
          exact ⟨h1, g, h2, keep9 (by decide) (Hk8.out _ _ _ _ _ _ (by decide) (by decide) h3)⟩
        have hb9 := hb7.trans (below_grown hg9 hb7.size (fun g e => by injection e with e; omega))
        have hln : (nodes.flatMap Node.list).length = nn * 3 := by rw [flat_length Node.len, Hn.out]
        have hlf : (gs.flatMap FC.list).length = j * 2 := by rw [flat_length FC.len, Hgl.out]
        have hmod : gs.map (·.mode) = files.map (·.mode) := by rw [Hgm.out, List.take_of_length_le (by rw [Hfl.out]; exact Nat.le_refl _)]
        have hdl : ds.length = gs.length := by rw [HD.out.len, Hfl.out, Hgl.out]
        refine ret_cell1 rfl rfl (load_blk hB9 Try.underlying26 rfl (by kernel_rfl)) rfl ⟨⟨nodes, gs, A, nn, c, some ⟨g6, 0, none⟩, j, c6⟩, rfl, ?_, ?_, ?_, hb9⟩
        · obtain ⟨gA, hgA⟩ := own_some hN9 (by omega)
          subst hgA
          refine ⟨(own_row hN9).2.2.2.1, (own_row hF9).2.2.2.1, ⟨gA, 0, rfl, (own_row hN9).2.2.1, ?_⟩, ⟨g6, 0, rfl, (own_row hF9).2.2.1, ?_⟩, fun k x hk => ?_⟩
          · have h := (own_row hN9).1 (nn * 3 + 1) (.int .i64 (-71)) (by rw [List.getElem?_append_right (by omega), hln, Nat.add_sub_cancel_left]; rfl)
            rwa [← Nat.add_assoc] at h
          · exact (own_row hF9).1 (j * 2) (.int .i64 (-72)) (by rw [List.getElem?_append_right (by omega), hlf, Nat.sub_self]; rfl)
          · obtain ⟨d, hd⟩ : ∃ d, ds[k]? = some d := ⟨_, List.getElem?_eq_getElem (by have := (List.getElem?_eq_some_iff.1 hk).1; simp only at this; omega)⟩
            obtain ⟨h1, g, h2, h3⟩ := hrow9 k x d hk hd
            refine ⟨(own_row h3).2.2.2.1, g, 0, h2, (own_row h3).2.2.1, (own_row h3).1 x.n (.int .u8 167) ?_⟩
            rw [List.getElem?_append_right (by rw [bytesC_length]; omega), bytesC_length, h1, Nat.sub_self]; rfl
        · have hS1 := (Sl.of_own hN9).first (k := nn) (by omega)
          rw [List.take_left' hln] at hS1
          have hS2 := (Sl.of_own hF9).first (k := j) (by omega)
          rw [List.take_left' hlf] at hS2
          refine ⟨⟨Hn.out, Hgl.out, hS1, hS2, by show nn ≤ _; omega, by show j ≤ _; omega⟩, ⟨hdl, fun k x d hx hd => ?_⟩⟩
          obtain ⟨h1, g, h2, h3⟩ := hrow9 k x d hx hd
          have hS3 := (Sl.of_own h3).first (k := x.n) (by omega)
          rw [List.take_left' (by rw [bytesC_length, h1, Nat.mul_one])] at hS3
          exact ⟨h1.symm, by rw [h2]; exact hS3⟩
        · simp [exactB, hmod]
end Go.Proofs.Ytdjlchbgdehccaa
