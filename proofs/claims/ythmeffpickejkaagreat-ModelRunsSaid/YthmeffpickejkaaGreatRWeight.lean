/- shuntref6.Weight, dir, File; shuntref1.Plus, Minus. -/
import Derived.Test.YthmeffpickejkaaGreatLooksR
import Derived.Test.YthmeffpickejkaaGreatKit
namespace Go.Proofs.YthmeffpickejkaaGreat
open Go.RowKit

def dW (k : Nat) : Nat := max 1 ((k + 15) / 16)
def fW (n : Nat) : Nat := if 8 < (n + 511) / 512 then (n + 511) / 512 + 1 else (n + 511) / 512
def tollV (b i : Int) : Value := .agg #[.int .i64 b, .int .i64 i]
theorem div_nat (n c d : Nat) : ((n : Int) + (c : Int)) / (d : Int) = (((n + c) / d : Nat) : Int) := by
  rw [Int.natCast_ediv]; simp
theorem rdir_any (k : Nat) (hk : k ≤ 1000000) (w : World) : Calls Tryz.prog 27 #[.int .i64 k] w fun e w' => e = .returned (tollV (dW k : Nat) 1) ∧ Below w.heap.size w w' := by
  have hd := div_nat k 15 16
  have hb := (Below.refl w.heap.size w).alloc (Nat.le_refl _)
  unfold tollV
  by_cases h0 : k = 0
  · subst h0
    go_enter Tryz.func27, Tryz.ntmps27
    go_wp2
    exact ret_cell1 rfl rfl (load_blk (Blk.new _ _ _) Tryz.underlying48 rfl (by kernel_rfl)) rfl ⟨rfl, hb _⟩
  · have h1 : ((k : Int) == 0) = false := beq_eq_false_iff_ne.2 (by omega)
    obtain ⟨q, hq⟩ : ∃ q, (k + 15) / 16 = q := ⟨_, rfl⟩
    have hd2 : ((k : Int) + 15) / 16 = (q : Int) := by rw [← hq]; exact hd
    have hw : dW k = q := by unfold dW; omega
    have hq2 : q ≤ 1000000 := by omega
    rw [hw]
    have HW := Lib.hid hw; have HQ := Lib.hid hq; have H0 := Lib.hid h0
    clear hd hw hq h0
    go_enter Tryz.func27, Tryz.ntmps27
    go_wp2
    refine ret_cell1 rfl rfl (load_blk (Blk.new _ _ _) Tryz.underlying48 rfl (by kernel_rfl)) rfl ⟨?_, hb _⟩
    first | rfl | rw [hd2]
theorem rfileW_any (k : Nat) (hk : k ≤ 1000000) (w : World) : Calls Tryz.prog 30 #[.int .i64 k] w fun e w' => e = .returned (tollV (fW k : Nat) 1) ∧ Below w.heap.size w w' := by
  have hd := div_nat k 511 512
  have hb := (Below.refl w.heap.size w).alloc (Nat.le_refl _)
  unfold tollV
  obtain ⟨q, hq⟩ : ∃ q, (k + 511) / 512 = q := ⟨_, rfl⟩
  have hd2 : ((k : Int) + 511) / 512 = (q : Int) := by rw [← hq]; exact hd
  have hq2 : q ≤ 1000000 := by omega
  by_cases h8 : 8 < q
  · have hw : fW k = q + 1 := by unfold fW; rw [hq, if_pos h8]
    have h8i : (8 : Int) < q := by omega
    rw [hw]
    have HW := Lib.hid hw; have HQ := Lib.hid hq
    clear hd hw hq h8
    go_enter Tryz.func30, Tryz.ntmps30
    go_wp2
    refine ret_cell1 rfl rfl (load_blk (Blk.new _ _ _) Tryz.underlying48 rfl (by kernel_rfl)) rfl ⟨?_, hb _⟩
    first | rfl | rw [hd2]; rfl
  · have hw : fW k = q := by unfold fW; rw [hq, if_neg h8]
    have h8i : ¬ (8 : Int) < q := by omega
    rw [hw]
    have HW := Lib.hid hw; have HQ := Lib.hid hq
    clear hd hw hq h8
    go_enter Tryz.func30, Tryz.ntmps30
    go_wp2
    refine ret_cell1 rfl rfl (load_blk (Blk.new _ _ _) Tryz.underlying48 rfl (by kernel_rfl)) rfl ⟨?_, hb _⟩
    first | rfl | rw [hd2]
theorem rplus_any (a b c d : Int) (h : -1000000000 ≤ a ∧ a ≤ 1000000000 ∧ -1000000000 ≤ b ∧ b ≤ 1000000000 ∧ -1000000000 ≤ c ∧ c ≤ 1000000000 ∧ -1000000000 ≤ d ∧ d ≤ 1000000000) (w : World) : Calls Tryz.prog 29 #[tollV a b, tollV c d] w fun e w' => e = .returned (tollV (a + c) (b + d)) ∧ Below w.heap.size w w' := by
  have hb := (((Below.refl w.heap.size w).alloc (Nat.le_refl _) (.cells #[.int .i64 a, .int .i64 b] 48)).alloc (by simp) (.cells #[.int .i64 c, .int .i64 d] 48)).alloc (by simp; omega) (.cells #[.int .i64 (a + c), .int .i64 (b + d)] 48)
  unfold tollV
  have hN := Blk.new ((w.alloc (.cells #[.int .i64 a, .int .i64 b] 48)).alloc (.cells #[.int .i64 c, .int .i64 d] 48)) 48 #[.int .i64 (a + c), .int .i64 (b + d)]
  simp only [World.size_alloc] at hN
  go_enter Tryz.func29, Tryz.ntmps29
  go_wp2
  exact ret_cell1 rfl rfl (load_blk hN Tryz.underlying48 rfl (by kernel_rfl)) rfl ⟨rfl, hb⟩

/-- How many nodes stand in a directory. -/
def kidN (l : List Node) (p : ByteArray) : Nat := (picks (kidsF p) l).length
theorem kidN_le (l : List Node) (p : ByteArray) : kidN l p ≤ l.length := picks_len _ _
/-- Blocks of the directories, how many there are, blocks of the files. -/
def dirsB (all l : List Node) : Nat := (l.map fun x => if x.file = -1 then dW (kidN all x.path) else 0).sum
def dirsI (l : List Node) : Nat := (l.map fun x => if x.file = -1 then 1 else 0).sum
def filesB (fs : List FC) : Nat := (fs.map fun f => fW f.n).sum
def wgtB (t : TV) : Nat := dW (kidN t.nodes ByteArray.empty) + dirsB t.nodes t.nodes + filesB t.files
def wgtI (t : TV) : Nat := 1 + dirsI t.nodes + t.files.length
theorem sum_snoc (l : List Nat) (x : Nat) : (l ++ [x]).sum = l.sum + x := by simp
theorem dirsB_snoc (all l : List Node) (x : Node) : dirsB all (l ++ [x]) = dirsB all l + if x.file = -1 then dW (kidN all x.path) else 0 := by
  unfold dirsB; rw [List.map_append, List.map_singleton, sum_snoc]
theorem dirsI_snoc (l : List Node) (x : Node) : dirsI (l ++ [x]) = dirsI l + if x.file = -1 then 1 else 0 := by
  unfold dirsI; rw [List.map_append, List.map_singleton, sum_snoc]
theorem filesB_snoc (l : List FC) (x : FC) : filesB (l ++ [x]) = filesB l + fW x.n := by
  unfold filesB; rw [List.map_append, List.map_singleton, sum_snoc]
theorem dW_le {k n : Nat} (h : k ≤ n) (h1 : 1 ≤ n) : dW k ≤ n := by unfold dW; omega
theorem fW_le (n : Nat) : fW n ≤ n + 1 := by unfold fW; split <;> omega
theorem dirsB_le (all : List Node) (h : all.length ≤ 1000) : ∀ l : List Node, dirsB all l ≤ l.length * 1000 ∧ dirsI l ≤ l.length := fun l => by
  induction l with
  | nil => exact ⟨Nat.le_refl _, Nat.le_refl _⟩
  | cons x t ih =>
    unfold dirsB dirsI at ih ⊢
    simp only [List.map_cons, List.sum_cons, List.length_cons]
    have := dW_le (Nat.le_trans (kidN_le all x.path) h) (by omega)
    split <;> omega
theorem filesB_le (l : List FC) (h : ∀ x ∈ l, x.n ≤ 100000) : filesB l ≤ l.length * 100001 := by
  induction l with
  | nil => exact Nat.le_refl _
  | cons x t ih =>
    have h1 := ih fun y hy => h y (List.mem_cons_of_mem _ hy)
    have h2 := h x (by simp)
    have h3 := fW_le x.n
    unfold filesB at h1 ⊢
    simp only [List.map_cons, List.sum_cons, List.length_cons]
    omega
theorem take_sum_le (all : List Node) (h : all.length ≤ 1000) (k : Nat) (hk : k ≤ 1000) : dirsB all (all.take k) ≤ 1000000 ∧ dirsI (all.take k) ≤ 1000 := by
  have := dirsB_le all h (all.take k)
  have h2 : (all.take k).length ≤ k := by rw [List.length_take]; omega
  constructor
  · have := Nat.mul_le_mul_right 1000 (Nat.le_trans h2 hk); omega
  · omega
theorem tollT : (Tryz.prog.info? 48).map (·.size) = some 2 := by kernel_rfl
set_option maxRecDepth 100000 in
set_option maxHeartbeats 4000000 in
theorem rweight_any (t : TV) (w : World) (h : TreeAt w t) (hn : t.nn ≤ 1000) (hf : t.fn ≤ 1000) (hs : ∀ x ∈ t.files, x.n ≤ 100000) :
    Calls Tryz.prog 13 #[t.val] w fun e w' => e = .returned (tollV (wgtB t : Nat) (wgtI t : Nat)) ∧ Below w.heap.size w w' := by
  obtain ⟨B, hB⟩ : ∃ B, wgtB t = B := ⟨_, rfl⟩
  obtain ⟨I, hI⟩ : ∃ I, wgtI t = I := ⟨_, rfl⟩
  rw [hB, hI]
  unfold wgtB at hB
  unfold wgtI at hI
  have HT := Lib.hid h
  have HNL := Lib.hid h.nl; have HFL := Lib.hid h.fl
  have hll : t.nodes.length ≤ 1000 := by rw [h.nl]; exact hn
  obtain ⟨nodes, files, NA, nn, nc, FA, fn, fc⟩ := t
  simp only at hB hI hn hf hs hll
  obtain ⟨r0, hr0⟩ : ∃ r, dW (kidN nodes ByteArray.empty) = r := ⟨_, rfl⟩
  have hr0b : r0 ≤ 1000 := by rw [← hr0]; exact dW_le (Nat.le_trans (kidN_le _ _) hll) (by omega)
  rw [hr0] at hB
  have HB := Lib.hid hB; have HI := Lib.hid hI; have HR0 := Lib.hid hr0; have HLL := Lib.hid hll; have HSM := Lib.hid hs
  clear h hB hI hr0 hll hs
  unfold TV.val
  have hb := ((Below.refl w.heap.size w).alloc (Nat.le_refl _) (.cells #[.slice NA nn nc, .slice FA fn fc] 25)).alloc (by simp) (.cells #[.int .i64 0, .int .i64 0] 48)
  have hT := (Blk.new w 25 #[.slice NA nn nc, .slice FA fn fc]).alloc (.cells #[.int .i64 0, .int .i64 0] 48)
  have hR := Blk.new (w.alloc (.cells #[.slice NA nn nc, .slice FA fn fc] 25)) 48 #[.int .i64 0, .int .i64 0]
  rw [World.size_alloc] at hR
  have hk0 : (kidN nodes ByteArray.empty : Nat) ≤ 1000 := Nat.le_trans (kidN_le _ _) HLL.out
  obtain ⟨k0, hk0e⟩ : ∃ k, kidN nodes ByteArray.empty = k := ⟨_, rfl⟩
  rw [hk0e] at hk0
  have HK0 := Lib.hid hk0e; clear hk0e
  go_enter Tryz.func13, Tryz.ntmps13
  go_upto_region 2 with (first | (go_at_call 28; refine (rkids6_any ⟨nodes, files, NA, nn, nc, FA, fn, fc⟩ ⟨#[]⟩ _ (HT.out.keep hb) (Nat.le_trans hn (by decide))).mono ?_; rintro e w1 ⟨KA, kn, kc, rfl, hkn, _, hb1⟩; obtain rfl : k0 = kn := HK0.out.symm.trans hkn; replace hT := hT.below hb1 hT.lt; replace hR := hR.below hb1 hR.lt; replace hb := hb.trans (hb1.mono hb.size)) | (go_at_call 27; refine (rdir_any k0 (by omega) _).mono ?_; rintro e w2 ⟨rfl, hb2⟩; replace hT := hT.below hb2 hT.lt; replace hR := hR.below hb2 hR.lt; replace hb := hb.trans (hb2.mono hb.size); unfold tollV))
  have e0 : dW k0 = r0 := by rw [← HK0.out]; exact HR0.out
  rw [e0]
  have hS := Blk.new w2 48 #[.int .i64 r0, .int .i64 1]
  have hgS := hb.size
  replace hT := hT.alloc (.cells #[.int .i64 r0, .int .i64 1] 48)
  replace hR := hR.alloc (.cells #[.int .i64 r0, .int .i64 1] 48)
  replace hb := hb.alloc hb.size (.cells #[.int .i64 r0, .int .i64 1] 48)
  obtain ⟨gS, hgSe⟩ : ∃ g, w2.heap.size = g := ⟨_, rfl⟩
  obtain ⟨W0, hW0⟩ : ∃ W, w2.alloc (.cells #[.int .i64 r0, .int .i64 1] 48) = W := ⟨_, rfl⟩
  have hne : gS ≠ w.heap.size + 1 ∧ gS ≠ w.heap.size := by
    have := hb2.size; have := hb1.size
    simp only [World.size_alloc] at *
    omega
  rw [hW0] at hS hT hR hb ⊢
  rw [hgSe] at hS hgS ⊢
  clear hW0 hgSe hb1 hb2 e0
  go_wp2
  go_loopw [4] (fun i wr => ∃ k : Nat, k ≤ nn ∧ i = .int .i64 k ∧ Blk wr w.heap.size 25 #[.slice NA nn nc, .slice FA fn fc] ∧ Blk wr (w.heap.size + 1) 48 #[.int .i64 0, .int .i64 0] ∧ (∃ b i : Nat, Hid (b = r0 + dirsB nodes (nodes.take k)) ∧ Hid (i = 1 + dirsI (nodes.take k)) ∧ b ≤ 1001000 ∧ i ≤ 1001 ∧ Blk wr gS 48 #[.int .i64 b, .int .i64 i]) ∧ Below w.heap.size w wr) (fun i _ => nn - (intOf i).toNat)
  case atStart => exact ⟨0, Nat.zero_le _, rfl, hT, hR, ⟨r0, 1, Lib.hid rfl, Lib.hid rfl, by omega, by omega, hS⟩, hb⟩
  case round =>
    clear hT hR hS hb
    obtain ⟨k, hk, rfl, hT, hR, ⟨b, i, HBk, HIk, hbb, hib, hS⟩, hb⟩ := hrel
    have b0 := hT.cell 0; have b1 := hT.cell 1
    by_cases hlt : k < nn
    · have hki : (k : Int) < nn := by omega
      obtain ⟨xb, xo, x, rfl, hxb, hx, hc⟩ := (HT.out.ns.keep (Nat.le_refl _) hb.block).get Node.len HNL.out hlt
      have c0 := hc 0 _ rfl
      have c1 := hc 1 _ rfl
      simp only [Nat.add_zero] at c0 c1
      have hsB := dirsB_snoc nodes (nodes.take k) x
      have hsI := dirsI_snoc (nodes.take k) x
      rw [← take_snoc' hx] at hsB hsI
      have hub := take_sum_le nodes HLL.out (k + 1) (by omega)
      clear hc hx
      by_cases a5 : x.file = -1
      · rw [if_pos a5] at hsB hsI
        obtain ⟨q, hq⟩ : ∃ q, kidN nodes x.path = q := ⟨_, rfl⟩
        have hq1 : q ≤ 1000 := by rw [← hq]; exact Nat.le_trans (kidN_le _ _) HLL.out
        rw [hq] at hsB
        have hqw : dW q ≤ 1000 := dW_le hq1 (by omega)
        have hB2 : b + dW q = r0 + dirsB nodes (nodes.take (k + 1)) := by rw [hsB, HBk.out]; omega
        have hI2 : i + 1 = 1 + dirsI (nodes.take (k + 1)) := by rw [hsI, HIk.out]; omega
        have hb3 : b + dW q ≤ 1001000 := by omega
        have hi3 : i + 1 ≤ 1001 := by omega
        obtain ⟨d, hd⟩ : ∃ d, dW q = d := ⟨_, rfl⟩
        have hdr := rdir_any q (by omega)
        rw [hd] at hB2 hb3 hqw hdr
        have HB2 := Lib.hid hB2; have HI2 := Lib.hid hI2; have HQ := Lib.hid hq; have HD := Lib.hid hd; have HDR := Lib.hid hdr
        rw [a5] at c1
        have A5 := Lib.hid a5
        clear hsB hsI hub hB2 hI2 hq hd hdr a5
        have hTl := hT.lt; have hSl := hS.lt; have hbs := hb.size
        have hxw : xb < wr.heap.size := by omega
        have s0 := hS.cell 0; have s1 := hS.cell 1
        go_upto_region 6 with (fail)
        refine wp_region_ordG (none) [(0, true), (1, true), (2, true), (3, true), (4, true), (5, true), (6, true), (7, true), (8, false), (9, true), (10, false), (11, false)] 12 (by kernel_rfl) (by kernel_rfl) fun hG0 => ?_
        repeat (first
          | (refine ord_skipB rfl (by rfl) ?_; simp only [Act.put, List.setIfInBounds_toArray, List.set_cons_zero, List.set_cons_succ])
          | (refine ord_qE rfl (by rfl) ?_; apply Exists.intro; refine ⟨fun w' hc' => ?_, ?_⟩; (focus (go_simp; (try go_bits); (try simp only [↓IntWalk.iteOmega]); with_reducible rfl)); simp only [Act.put, List.setIfInBounds_toArray, List.set_cons_zero, List.set_cons_succ]))
        refine ord_eB rfl fun K hK => ?_
        go_wp2_with (go_at_call 28; refine (rkids6_any ⟨nodes, files, some ⟨xb, xo, none⟩, nn, nc, FA, fn, fc⟩ x.path _ (HT.out.keep (hb.trans (below_grown hG0 hb.size (fun g e => by cases e)))) (Nat.le_trans hn (by decide))).mono ?_; rintro e w4 ⟨KA, kn, kc, rfl, hkn, _, hb4⟩; obtain rfl : q = kn := HQ.out.symm.trans hkn)
        have hG1 := grown_trans hG0 (grown_below hb4 (Nat.le_refl _))
        refine hK.out _ _ hG1 ?_
        clear hK K
        repeat (first
          | (refine ord_skipB rfl (by rfl) ?_; simp only [Act.put, List.setIfInBounds_toArray, List.set_cons_zero, List.set_cons_succ])
          | (refine ord_qE rfl (by rfl) ?_; apply Exists.intro; refine ⟨fun w' hc' => ?_, ?_⟩; (focus (go_simp; (try go_bits); (try simp only [↓IntWalk.iteOmega]); with_reducible rfl)); simp only [Act.put, List.setIfInBounds_toArray, List.set_cons_zero, List.set_cons_succ]))
        refine ord_eB rfl fun K hK => ?_
        go_wp2_with (go_at_call 27; refine (HDR.out _).mono ?_; rintro e w5 ⟨rfl, hb5⟩; unfold tollV)
        have hG2 := grown_trans hG1 (grown_below hb5 (Nat.le_refl _))
        refine hK.out _ _ hG2 ?_
        clear hK K
        repeat (first
          | (refine ord_skipB rfl (by rfl) ?_; simp only [Act.put, List.setIfInBounds_toArray, List.set_cons_zero, List.set_cons_succ])
          | (refine ord_qE rfl (by rfl) ?_; apply Exists.intro; refine ⟨fun w' hc' => ?_, ?_⟩; (focus (go_simp; (try go_bits); (try simp only [↓IntWalk.iteOmega]); with_reducible rfl)); simp only [Act.put, List.setIfInBounds_toArray, List.set_cons_zero, List.set_cons_succ]))
        refine ord_eB rfl fun K hK => ?_
        go_wp2_with (go_at_call 29; refine (rplus_any b i d 1 (by omega) _).mono ?_; rintro e w6 ⟨rfl, hb6⟩; unfold tollV)
        have hG3 := grown_trans hG2 (grown_below hb6 (Nat.le_refl _))
        refine hK.out _ _ hG3 ?_
        clear hK K
        repeat (first
          | (refine ord_skipB rfl (by rfl) ?_; simp only [Act.put, List.setIfInBounds_toArray, List.set_cons_zero, List.set_cons_succ])
          | (refine ord_qE rfl (by rfl) ?_; apply Exists.intro; refine ⟨fun w' hc' => ?_, ?_⟩; (focus (go_simp; (try go_bits); (try simp only [↓IntWalk.iteOmega]); with_reducible rfl)); simp only [Act.put, List.setIfInBounds_toArray, List.set_cons_zero, List.set_cons_succ]))
        have hS6 := hS.grown hG3 (by simp)
        refine ord_tail rfl fun K hK => ?_
        go_wp2_with (refine wpList_store_blk rfl 48 (.tmp 3) (.tmp 35) rfl hS6 #[.int .i64 ((b : Int) + (d : Int)), .int .i64 ((i : Int) + 1)] rfl rfl tollT rfl (by simp [Value.oneCell']) ?_; intro w7 hB7 hg7 hs7)
        refine hK.out _ _ ?_
        clear hK K
        have hT7 := (hT.grown hG3 (by simp)).grown hg7 (fun e => by injection e with e; omega)
        have hR7 := (hR.grown hG3 (by simp)).grown hg7 (fun e => by injection e with e; omega)
        have hb7 := (hb.trans (below_grown hG3 hb.size (fun g e => by cases e))).trans (below_grown hg7 (Nat.le_trans hb.size hG3.size) (fun g e => by injection e with e; omega))
        go_wp2
        go_roundw
        case rel => exact ⟨k + 1, by omega, by go_num, hT7, hR7, ⟨b + d, i + 1, Lib.hid HB2.out, Lib.hid HI2.out, hb3, hi3, by simpa using hB7⟩, hb7⟩
        case measure => simp [intOf]; omega
      · rw [if_neg a5] at hsB hsI
        have a6 : (x.file == -1) = false := beq_eq_false_iff_ne.2 a5
        have HB2 := Lib.hid (show b = r0 + dirsB nodes (nodes.take (k + 1)) by rw [hsB, HBk.out]; rfl)
        have HI2 := Lib.hid (show i = 1 + dirsI (nodes.take (k + 1)) by rw [hsI, HIk.out]; rfl)
        have A5 := Lib.hid a5
        clear hsB hsI hub a5
        go_wp2
        go_roundw
        case rel => exact ⟨k + 1, by omega, by go_num, hT, hR, ⟨b, i, HB2, HI2, hbb, hib, hS⟩, hb⟩
        case measure => simp [intOf]; omega
    · obtain rfl : k = nn := by omega
      have hB1 := HBk.out
      have hI1 := HIk.out
      rw [List.take_of_length_le (by rw [HNL.out]; exact Nat.le_refl _)] at hB1 hI1
      have HB1 := Lib.hid hB1; have HI1 := Lib.hid hI1
      clear hB1 hI1 HBk HIk
      have hki : ¬ (k : Int) < k := by omega
      go_wp2
      clear b0 b1
      go_loopw [5] (fun v wr => ∃ j : Nat, j ≤ fn ∧ v = .int .i64 j ∧ Blk wr w.heap.size 25 #[.slice NA k nc, .slice FA fn fc] ∧ Blk wr (w.heap.size + 1) 48 #[.int .i64 0, .int .i64 0] ∧ (∃ b' i' : Nat, Hid (b' = b + filesB (files.take j)) ∧ Hid (i' = i + j) ∧ b' ≤ 1001000 + j * 100001 ∧ i' ≤ 1001 + j ∧ Blk wr gS 48 #[.int .i64 b', .int .i64 i']) ∧ Below w.heap.size w wr) (fun v _ => fn - (intOf v).toNat)
      case atStart => exact ⟨0, Nat.zero_le _, rfl, hT, hR, ⟨b, i, Lib.hid rfl, Lib.hid rfl, by omega, by omega, hS⟩, hb⟩
      case round =>
        clear hT hR hS hb
        obtain ⟨j, hj, rfl, hT, hR, ⟨b', i', HBj, HIj, hbb', hib', hS⟩, hb⟩ := hrel
        have b0 := hT.cell 0; have b1 := hT.cell 1
        by_cases hlt2 : j < fn
        · have hji : (j : Int) < fn := by omega
          obtain ⟨xb, xo, x, rfl, hxb, hx, hc⟩ := (HT.out.fs.keep (Nat.le_refl _) hb.block).get FC.len HFL.out hlt2
          have c1 := hc 1 _ rfl
          have hsB := filesB_snoc (files.take j) x
          rw [← take_snoc' hx] at hsB
          have hxn := HSM.out x (List.mem_of_getElem? hx)
          clear hc hx
          have hqw := fW_le x.n
          have hfr := rfileW_any x.n (by omega)
          obtain ⟨d, hd⟩ : ∃ d, fW x.n = d := ⟨_, rfl⟩
          rw [hd] at hsB hqw hfr
          have HB2 := Lib.hid (show b' + d = b + filesB (files.take (j + 1)) by rw [hsB, HBj.out]; omega)
          have HI2 := Lib.hid (show i' + 1 = i + (j + 1) by rw [HIj.out]; omega)
          have hb3 : b' + d ≤ 1001000 + (j + 1) * 100001 := by omega
          have hi3 : i' + 1 ≤ 1001 + (j + 1) := by omega
          have hd5 : d ≤ 100001 := by omega
          have hb5' : b' ≤ 200000000 := by omega
          have HFR := Lib.hid hfr; have HD := Lib.hid hd
          clear hsB hfr hd hqw
          have hTl := hT.lt; have hSl := hS.lt; have hbs := hb.size
          have hxw : xb < wr.heap.size := by omega
          have s0 := hS.cell 0; have s1 := hS.cell 1
          go_upto_region 10 with (fail)
          refine wp_region_ordG (none) [(0, true), (1, true), (2, true), (3, true), (4, true), (5, true), (6, true), (7, true), (8, false), (9, false)] 10 (by kernel_rfl) (by kernel_rfl) fun hG0 => ?_
          repeat (first
            | (refine ord_skipB rfl (by rfl) ?_; simp only [Act.put, List.setIfInBounds_toArray, List.set_cons_zero, List.set_cons_succ])
            | (refine ord_qE rfl (by rfl) ?_; apply Exists.intro; refine ⟨fun w' hc' => ?_, ?_⟩; (focus (go_simp; (try go_bits); (try simp only [↓IntWalk.iteOmega]); with_reducible rfl)); simp only [Act.put, List.setIfInBounds_toArray, List.set_cons_zero, List.set_cons_succ]))
          refine ord_eB rfl fun K hK => ?_
          go_wp2_with (go_at_call 30; refine (HFR.out _).mono ?_; rintro e w5 ⟨rfl, hb5⟩; unfold tollV)
          have hG1 := grown_trans hG0 (grown_below hb5 (Nat.le_refl _))
          refine hK.out _ _ hG1 ?_
          clear hK K
          repeat (first
            | (refine ord_skipB rfl (by rfl) ?_; simp only [Act.put, List.setIfInBounds_toArray, List.set_cons_zero, List.set_cons_succ])
            | (refine ord_qE rfl (by rfl) ?_; apply Exists.intro; refine ⟨fun w' hc' => ?_, ?_⟩; (focus (go_simp; (try go_bits); (try simp only [↓IntWalk.iteOmega]); with_reducible rfl)); simp only [Act.put, List.setIfInBounds_toArray, List.set_cons_zero, List.set_cons_succ]))
          refine ord_eB rfl fun K hK => ?_
          go_wp2_with (go_at_call 29; refine (rplus_any b' i' d 1 (by omega) _).mono ?_; rintro e w6 ⟨rfl, hb6⟩; unfold tollV)
          have hG2 := grown_trans hG1 (grown_below hb6 (Nat.le_refl _))
          refine hK.out _ _ hG2 ?_
          clear hK K
          repeat (first
            | (refine ord_skipB rfl (by rfl) ?_; simp only [Act.put, List.setIfInBounds_toArray, List.set_cons_zero, List.set_cons_succ])
            | (refine ord_qE rfl (by rfl) ?_; apply Exists.intro; refine ⟨fun w' hc' => ?_, ?_⟩; (focus (go_simp; (try go_bits); (try simp only [↓IntWalk.iteOmega]); with_reducible rfl)); simp only [Act.put, List.setIfInBounds_toArray, List.set_cons_zero, List.set_cons_succ]))
          have hS6 := hS.grown hG2 (by simp)
          refine ord_tail rfl fun K hK => ?_
          go_wp2_with (refine wpList_store_blk rfl 48 (.tmp 3) (.tmp 52) rfl hS6 #[.int .i64 ((b' : Int) + (d : Int)), .int .i64 ((i' : Int) + 1)] rfl rfl tollT rfl (by simp [Value.oneCell']) ?_; intro w7 hB7 hg7 hs7)
          refine hK.out _ _ ?_
          clear hK K
          have hT7 := (hT.grown hG2 (by simp)).grown hg7 (fun e => by injection e with e; omega)
          have hR7 := (hR.grown hG2 (by simp)).grown hg7 (fun e => by injection e with e; omega)
          have hb7 := (hb.trans (below_grown hG2 hb.size (fun g e => by cases e))).trans (below_grown hg7 (Nat.le_trans hb.size hG2.size) (fun g e => by injection e with e; omega))
          go_wp2
          go_roundw
          case rel => exact ⟨j + 1, by omega, by go_num, hT7, hR7, ⟨b' + d, i' + 1, Lib.hid HB2.out, Lib.hid HI2.out, hb3, hi3, by simpa using hB7⟩, hb7⟩
          case measure => simp [intOf]; omega
        · obtain rfl : j = fn := by omega
          have hBB : b' = B := by
            rw [HBj.out, List.take_of_length_le (by rw [HFL.out]; exact Nat.le_refl _), HB1.out]
            exact HB.out
          have hII : i' = I := by
            rw [HIj.out, HI1.out, ← HI.out, HFL.out]
          clear HBj HIj HB HI HB1 HI1
          subst hBB hII
          have hji : ¬ (j : Int) < j := by omega
          have s0 := hS.cell 0; have s1 := hS.cell 1
          go_wp2_with (refine wpList_store_blk rfl 48 (.tmp 2) (.tmp 53) rfl hR #[.int .i64 b', .int .i64 i'] rfl rfl tollT rfl (by simp [Value.oneCell']) ?_; intro w7 hB7 hg7 hs7)
          exact ret_cell1 rfl rfl (load_blk hB7 Tryz.underlying48 rfl (by kernel_rfl)) rfl ⟨rfl, hb.trans (below_grown hg7 hb.size (fun g e => by injection e with e; omega))⟩
end Go.Proofs.YthmeffpickejkaaGreat
