/- shuntlaw6.alive answers true. -/
import Derived.Test.YtdjlchbgdehccaaWgh
import Derived.Lib.SlBytesConst
namespace Go.Proofs.Ytdjlchbgdehccaa
open Go.RowKit Go.Shelf

theorem numT (x : Int) (w : World) : Calls Try.prog 18 #[.int .i64 x] w fun e w' => e = .returned (.int .i64 x) ∧ w' = w := by
  go_enter Try.func18, Try.ntmps18
  go_wp2
  go_ret
  exact ⟨rfl, rfl⟩
def aN : Node := ⟨⟨#[97]⟩, -1, 493, by decide⟩
def bN : Node := ⟨⟨#[98]⟩, 0, 0, by decide⟩
def aliveTV (h : Nat) : TV := ⟨[aN, bN], [⟨420, some ⟨h + 1, 0, none⟩, 2, 2⟩], some ⟨h, 0, none⟩, 2, 2, some ⟨h + 2, 0, none⟩, 1, 1⟩
theorem alive_loose (h : Nat) : looseE (aliveTV h) = 0 := by kernel_rfl
theorem alive_check (h : Nat) : checkE (aliveTV h) = 0 := by kernel_rfl
theorem alive_L (h : Nat) : weightL (keysOf (aliveTV h).nodes) (kidsN (aliveTV h).nodes) (aliveTV h).files = [(1, 1), (1, 1), (1, 1)] := by kernel_rfl
theorem alive_small (h : Nat) : SmallSum (weightL (keysOf (aliveTV h).nodes) (kidsN (aliveTV h).nodes) (aliveTV h).files) := by
  rw [alive_L]
  exact ⟨by decide, by decide, by decide⟩
theorem N3 : N 3 = 4613937818241073152 := by decide +kernel
theorem alive_s1 (h : Nat) : N (s1 (weightL (keysOf (aliveTV h).nodes) (kidsN (aliveTV h).nodes) (aliveTV h).files)) = 4613937818241073152 := by
  rw [alive_L]
  exact N3
theorem alive_s2 (h : Nat) : N (s2 (weightL (keysOf (aliveTV h).nodes) (kidsN (aliveTV h).nodes) (aliveTV h).files)) = 4613937818241073152 := by
  rw [alive_L]
  exact N3
def aliveW (w : World) : World := (((w.alloc (.cells #[.string ⟨#[97]⟩, .int .i64 (-1), .int .i64 493, .string ⟨#[98]⟩, .int .i64 0, .int .i64 0] 29)).alloc (.cells #[.int .u8 104, .int .u8 105] 5 (2, 3))).alloc (.cells #[.int .i64 420, .slice (some ⟨w.heap.size + 1, 0, none⟩) 2 2] 39))
theorem alive_at (w : World) (W : World) (hb : Below (aliveW w).heap.size (aliveW w) W) : TreeAt W (aliveTV w.heap.size) := by
  have h0 := Blk.new w 29 #[.string ⟨#[97]⟩, .int .i64 (-1), .int .i64 493, .string ⟨#[98]⟩, .int .i64 0, .int .i64 0]
  have h1 := (h0.alloc (.cells #[.int .u8 104, .int .u8 105] 5 (2, 3))).alloc (.cells #[.int .i64 420, .slice (some ⟨w.heap.size + 1, 0, none⟩) 2 2] 39)
  have h2 := Blk.new ((w.alloc (.cells #[.string ⟨#[97]⟩, .int .i64 (-1), .int .i64 493, .string ⟨#[98]⟩, .int .i64 0, .int .i64 0] 29)).alloc (.cells #[.int .u8 104, .int .u8 105] 5 (2, 3))) 39 #[.int .i64 420, .slice (some ⟨w.heap.size + 1, 0, none⟩) 2 2]
  simp only [World.size_alloc] at h2
  have hs := hb.size
  have hsz : (aliveW w).heap.size = w.heap.size + 3 := by simp [aliveW]
  have k1 : Blk W w.heap.size _ _ := (show Blk (aliveW w) _ _ _ from h1).below hb (by omega)
  have k2 : Blk W (w.heap.size + 1 + 1) _ _ := (show Blk (aliveW w) _ _ _ from h2).below hb (by omega)
  refine ⟨rfl, rfl, ⟨rfl, fun _ => ⟨w.heap.size, 0, rfl, by omega, fun i v hi => ?_⟩⟩, ⟨rfl, fun _ => ⟨w.heap.size + 2, 0, rfl, by omega, fun i v hi => ?_⟩⟩, by show 2 ≤ _; decide, by show 1 ≤ _; decide⟩
  · rw [Nat.zero_add, k1.cell i]
    simpa [aliveTV, aN, bN, Node.list] using hi
  · rw [Nat.zero_add, k2.cell i]
    simpa [aliveTV, FC.list] using hi
set_option maxRecDepth 100000 in
set_option maxHeartbeats 2000000 in
theorem alive_t (w : World) : Calls Try.prog 14 #[] w fun e w' => e = .returned (.bool true) ∧ Below w.heap.size w w' := by
  have h3 := N3
  replace h3 := Lib.hid h3
  have hA := Lib.hid (alive_at w)
  go_enter Try.func14, Try.ntmps14
  have kc := Lib.run_convert_bytes_const (P := Try.prog) (w.alloc (.cells #[.string ⟨#[97]⟩, .int .i64 (-1), .int .i64 493, .string ⟨#[98]⟩, .int .i64 0, .int .i64 0] 29)) 27 5 #[.int .u8 104, .int .u8 105] 2 2 Try.underlying27 Try.underlying5
  simp only [World.size_alloc, List.size_toArray, List.length_cons, List.length_nil, Nat.reduceAdd] at kc
  go_upto_region 2 with (fail)
  clear kc
  have hW0 : Below (aliveW w).heap.size (aliveW w) ((aliveW w).alloc (.cells #[.slice (some ⟨w.heap.size, 0, none⟩) 2 2, .slice (some ⟨w.heap.size + 1 + 1, 0, none⟩) 1 1] 26)) := (Below.refl _ _).alloc (Nat.le_refl _) _
  have hb0 : Blk ((aliveW w).alloc (.cells #[.slice (some ⟨w.heap.size, 0, none⟩) 2 2, .slice (some ⟨w.heap.size + 1 + 1, 0, none⟩) 1 1] 26)) (w.heap.size + 1 + 1 + 1) 26 #[.slice (some ⟨w.heap.size, 0, none⟩) 2 2, .slice (some ⟨w.heap.size + 1 + 1, 0, none⟩) 1 1] := by
    have h := Blk.new (aliveW w) 26 #[.slice (some ⟨w.heap.size, 0, none⟩) 2 2, .slice (some ⟨w.heap.size + 1 + 1, 0, none⟩) 1 1]
    have hsz : (aliveW w).heap.size = w.heap.size + 1 + 1 + 1 := by simp [aliveW]
    rwa [hsz] at h
  have HB0 : Below w.heap.size w ((aliveW w).alloc (.cells #[.slice (some ⟨w.heap.size, 0, none⟩) 2 2, .slice (some ⟨w.heap.size + 1 + 1, 0, none⟩) 1 1] 26)) := by
    unfold aliveW
    exact ((((Below.refl _ _).alloc (Nat.le_refl _) _).alloc (by simp) _).alloc (by simp; omega) _).alloc (by simp; omega) _
  have hsA : (aliveW w).heap.size = w.heap.size + 1 + 1 + 1 := by simp [aliveW]
  have c0 := hb0.cell 0
  have c1 := hb0.cell 1
  unfold aliveW at hW0 hb0 HB0 c0 c1
  have HW0 := Lib.hid hW0; clear hW0
  go_wp2_with (first | (go_at_call 15; (refine (check_any (aliveTV w.heap.size) _ (hA.out _ HW0.out)).mono ?_; rintro e w1 ⟨rfl, hb1⟩; rw [alive_check]; have hb1' := hb0.below hb1 (by simp only [World.size_alloc]; omega); have e0 := hb1'.cell 0; have e1 := hb1'.cell 1)) | (go_at_call 17; refine (weight_ok (aliveTV w.heap.size) _ (hA.out _ (HW0.out.trans (hb1.mono (by simp only [World.size_alloc]; omega)))) (alive_loose _) (alive_small _)).mono ?_; rintro e w2 ⟨rfl, hb2⟩; rw [alive_s1, alive_s2]) | (go_at_call 18; refine (numT _ _).mono ?_; rintro e w3 ⟨rfl, rfl⟩))
  first | go_ret | go_ret2
  exact ⟨rfl, (HB0.trans (hb1.mono (by simp only [World.size_alloc]; omega))).trans (hb2.mono (by have := hb1.size; simp only [World.size_alloc] at this; omega))⟩
end Go.Proofs.Ytdjlchbgdehccaa
