/- shuntlaw11.leaf, num, alive. -/
import Derived.Test.YtcnpncieibmngaaMatchE
import Derived.Test.YtcnpncieibmngaaConvS
namespace Go.Proofs.Ytcnpncieibmngaa
open Go.RowKit Go.Shelf

theorem num11 (x : Int) (w : World) : Calls Try.prog 13 #[.int .i64 x] w fun e w' => e = .returned (.int .i64 x) ∧ w' = w := by
  go_enter Try.func13, Try.ntmps13
  go_wp2
  go_ret
  exact ⟨rfl, rfl⟩
def leafN (p : ByteArray) (hp : p.size ≤ 9223372036854775807) : Node := ⟨p, 0, 0, hp⟩
def leafTV (p : ByteArray) (hp : p.size ≤ 9223372036854775807) (h c : Nat) : TV := ⟨[leafN p hp], [⟨0, some ⟨h + 1, 0, none⟩, 1, c⟩], some ⟨h, 0, none⟩, 1, 1, some ⟨h + 2, 0, none⟩, 1, 1⟩
def xB : ByteArray := ⟨#[120]⟩
set_option maxRecDepth 100000 in
set_option maxHeartbeats 1000000 in
theorem leaf_any (p : ByteArray) (hp : p.size ≤ 9223372036854775807) (w : World) : Calls Try.prog 28 #[.string p, .string xB] w fun e w' => ∃ h c, e = .returned (leafTV p hp h c).val ∧ TreeD w' (leafTV p hp h c) [xB] ∧ Below w.heap.size w w' := by
  have hR0 := Blk.new w 25 #[.slice none 0 0, .slice none 0 0]
  have hg0 := World.grownBy_alloc w (.cells #[.slice none 0 0, .slice none 0 0] 25) none
  go_enter Try.func28, Try.ntmps28
  go_upto_region 1 with (fail)
  obtain ⟨W1, hW1⟩ : ∃ W, w.alloc (.cells #[.slice none 0 0, .slice none 0 0] 25) = W := ⟨_, rfl⟩
  rw [hW1] at hR0 hg0 ⊢
  obtain ⟨r, hr⟩ : ∃ r, w.heap.size = r := ⟨_, rfl⟩
  rw [hr] at hR0 ⊢
  have hg1 := World.grownBy_alloc W1 (.cells #[.string p, .int .i64 0, .int .i64 0] 44) none
  have hN1 := Blk.new W1 44 #[.string p, .int .i64 0, .int .i64 0]
  have hs1 : (W1.alloc (.cells #[.string p, .int .i64 0, .int .i64 0] 44)).heap.size = W1.heap.size + 1 := World.size_alloc _ _
  obtain ⟨cap, V, hrun, hgV, hsV, hC⟩ := conv_bytes xB (W1.alloc (.cells #[.string p, .int .i64 0, .int .i64 0] 44))
  rw [hs1] at hrun hsV hC
  rw [show xB.size = 1 from rfl] at hrun
  have hg2 := World.grownBy_alloc V (.cells #[.int .i64 0, .slice (some ⟨W1.heap.size + 1, 0, none⟩) 1 cap] 47) none
  have hF := Blk.new V 47 #[.int .i64 0, .slice (some ⟨W1.heap.size + 1, 0, none⟩) 1 cap]
  rw [hsV] at hF
  have hgA := grown_trans hg1 (grown_trans hgV hg2)
  have hR := hR0.grown hgA (by simp)
  have hN := hN1.grown (grown_trans hgV hg2) (by simp)
  have hC2 := hC.keep (hg2.block _ hC.lt (by simp))
  have hrl := hR0.lt
  have HN := Lib.hid hN; have HF := Lib.hid hF; have HC := Lib.hid hC2; have HgA := Lib.hid hgA; have Hg0 := Lib.hid hg0; have Hr := Lib.hid hr
  clear hN hF hC2 hC hgA hg0 hg1 hgV hg2 hN1 hR0 hW1 hr hs1
  go_wp2_with (refine wpList_store_blk rfl 25 (.tmp 4) (.tmp 12) rfl hR #[.slice (some ⟨W1.heap.size, 0, none⟩) 1 1, .slice (some ⟨W1.heap.size + 1 + 1, 0, none⟩) 1 1] rfl rfl (by kernel_rfl) rfl (by simp [Value.oneCell']) ?_; intro w7 hB7 hg7 hs7)
  have hne1 : W1.heap.size ≠ r := by omega
  have hN7 := HN.out.grown hg7 (fun e => by injection e with e; omega)
  have hF7 := HF.out.grown hg7 (fun e => by injection e with e; omega)
  have hC7 := HC.out.keep (hg7.block _ HC.out.lt (fun e => by injection e with e; omega))
  have hsz : W1.heap.size + 1 + 1 < w7.heap.size := hF7.lt
  refine ret_cell1 rfl rfl (load_blk hB7 Try.underlying25 rfl (by kernel_rfl)) rfl ⟨W1.heap.size, cap, rfl, ⟨⟨rfl, rfl, ⟨rfl, fun _ => ⟨W1.heap.size, 0, rfl, by omega, fun i v hi => ?_⟩⟩, ⟨rfl, fun _ => ⟨W1.heap.size + 2, 0, rfl, by omega, fun i v hi => ?_⟩⟩, by show 1 ≤ _; decide, by show 1 ≤ _; decide⟩, ⟨rfl, fun k x d hx hd => ?_⟩⟩, ?_⟩
  · rw [Nat.zero_add, hN7.cell i]
    simpa [leafTV, leafN, Node.list] using hi
  · rw [Nat.zero_add, show W1.heap.size + 2 = W1.heap.size + 1 + 1 from rfl, hF7.cell i]
    simpa [leafTV, FC.list] using hi
  · have hk : k = 0 := by have := (List.getElem?_eq_some_iff.1 hd).1; simp at this; exact this
    subst hk
    simp only [leafTV, List.getElem?_cons_zero, Option.some.injEq] at hx hd
    subst hx hd
    exact ⟨rfl, hC7.sl⟩
  · rw [Hr.out]
    exact ((Below.refl w.heap.size w).trans (below_grown Hg0.out (Nat.le_refl _) (fun g e => by cases e))).trans (below_grown HgA.out Hg0.out.size (fun g e => by cases e)) |>.trans (below_grown hg7 (Nat.le_trans Hg0.out.size HgA.out.size) (fun g e => by injection e with e; rw [← e, ← Hr.out]; exact Nat.le_refl _)) |> fun h => by rw [Hr.out] at h; exact h
def aS : ByteArray := ⟨#[97]⟩
def bS : ByteArray := ⟨#[98]⟩
theorem alive_match (h1 c1 h2 c2 : Nat) : matchE (leafTV aS (by decide) h1 c1) (leafTV bS (by decide) h2 c2) [xB] [xB] [] = 0 ∧ matchL (leafTV aS (by decide) h1 c1) (leafTV bS (by decide) h2 c2) [xB] [xB] [] = [keepS 0] := by
  constructor <;> kernel_rfl
set_option maxRecDepth 100000 in
set_option maxHeartbeats 1000000 in
theorem alive11 (w : World) : Calls Try.prog 9 #[] w fun e w' => e = .returned (.bool true) ∧ Below w.heap.size w w' := by
  have hl1 := fun W => leaf_any aS (by decide) W
  have hl2 := fun W => leaf_any bS (by decide) W
  unfold aS xB at hl1
  unfold bS xB at hl2
  have H1 := Lib.hid hl1; have H2 := Lib.hid hl2
  clear hl1 hl2
  have hb := Below.refl w.heap.size w
  have tok1 : True := trivial
  go_enter Try.func9, Try.ntmps9
  go_upto_region 2 with (first | (have _t := tok1; go_at_call 28; refine (H1.out _).mono ?_; rintro e w1 ⟨h1, c1, rfl, hT1, hb1⟩; clear tok1 _t) | (go_at_call 28; refine (H2.out _).mono ?_; rintro e w2 ⟨h2, c2, rfl, hT2, hb2⟩) | (go_at_call 12; refine (match_any (leafTV aS (by decide) h1 c1) (leafTV bS (by decide) h2 c2) [xB] [xB] none 0 0 [] [] _ (hT1.keep hb2) hT2 (StockAt.nil _)).mono ?_; rw [(alive_match h1 c1 h2 c2).1, (alive_match h1 c1 h2 c2).2]; rintro e w3 ⟨A, n, c, rfl, hn, hS, hb3⟩))
  obtain rfl : n = 1 := hn.symm
  obtain ⟨b, o, x, rfl, hbl, hx, hc⟩ := hS.get Src.len rfl (show 0 < 1 by omega)
  simp only [List.getElem?_cons_zero, Option.some.injEq] at hx
  subst hx
  have c0 := hc 0 _ rfl; have c1' := hc 1 _ rfl; have c2' := hc 2 _ rfl
  simp only [Nat.add_zero, Nat.zero_mul, keepS] at c0 c1' c2'
  clear hc hS hT1 hT2
  go_wp2_with (go_at_call 13; refine (num11 _ _).mono ?_; rintro e w8 ⟨rfl, hw⟩; rw [hw]; clear hw)
  go_ret
  exact ⟨rfl, hb1.trans ((hb2.trans (hb3.mono hb2.size)).mono hb1.size)⟩
end Go.Proofs.Ytcnpncieibmngaa
