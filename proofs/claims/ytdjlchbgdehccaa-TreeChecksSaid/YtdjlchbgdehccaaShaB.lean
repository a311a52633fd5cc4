/- Turning a word round: sum.turn and shuntref2.right. The keys of the digest's rounds: sum.key and shuntref2.keys; words in an array. shuntref2.block and what it reckons. -/
import Derived.Test.YtdjlchbgdehccaaRounds

namespace Go.Proofs.Ytdjlchbgdehccaa
open Go.RowKit

/-- A word turned right by n. -/
def rot (x : Int) (n : Nat) : Int := bits .or .u32 (x / 2 ^ n) (x * 2 ^ (32 - n) % 4294967296)
set_option maxHeartbeats 1000000 in
theorem turn_any (x : Int) (n : Nat) (hn : 0 < n) (hn2 : n < 32) (w : World) : Calls Try.prog 107 #[.int .u32 x, .int .i64 n] w fun e w' => e = .returned (.int .u32 (rot x n)) ∧ w.grownBy w' none := by
  have hni : (0 : Int) < n := by omega
  have hni2 : (n : Int) < 32 := by omega
  go_enter Try.func107, Try.ntmps107
  go_upto_region 1 with (fail)
  refine wp_region_ordB (none) [(0, true), (1, true), (2, true), (3, true), (4, true), (5, true), (6, true), (7, true), (8, true)] (by kernel_rfl) (by kernel_rfl) fun hG0 => ?_
  repeat (first
    | (refine ord_skipB rfl (by rfl) ?_; simp only [Act.put, List.setIfInBounds_toArray, List.set_cons_zero, List.set_cons_succ])
    | (refine ord_qE rfl (by rfl) ?_; apply Exists.intro; refine ⟨fun w' hc' => ?_, ?_⟩; (focus (go_simp; (try go_bits); (try simp only [↓IntWalk.iteOmega]); with_reducible rfl)); simp only [Act.put, List.setIfInBounds_toArray, List.set_cons_zero, List.set_cons_succ]))
  refine ord_end ?_
  go_wp2
  go_ret
  exact ⟨rfl, hG0⟩
set_option maxHeartbeats 1000000 in
theorem right_any (x : Int) (n : Nat) (hn : 0 < n) (hn2 : n < 32) (w : World) : Calls Try.prog 99 #[.int .u32 x, .int .u64 n] w fun e w' => e = .returned (.int .u32 (rot x n)) ∧ w.grownBy w' none := by
  have hni : (0 : Int) < n := by omega
  have hni2 : (n : Int) < 32 := by omega
  go_enter Try.func99, Try.ntmps99
  go_upto_region 1 with (fail)
  refine wp_region_textB (none) [(0, true), (1, true), (2, true), (3, true), (4, true), (5, true), (6, true), (7, true), (8, true)] (by kernel_rfl) fun hG0 => ?_
  repeat (first
    | (refine ord_skipB rfl (by rfl) ?_; simp only [Act.put, List.setIfInBounds_toArray, List.set_cons_zero, List.set_cons_succ])
    | (refine ord_qE rfl (by rfl) ?_; apply Exists.intro; refine ⟨fun w' hc' => ?_, ?_⟩; (focus (go_simp; (try go_bits); (try simp only [↓IntWalk.iteOmega]); with_reducible rfl)); simp only [Act.put, List.setIfInBounds_toArray, List.set_cons_zero, List.set_cons_succ]))
  refine ord_end ?_
  go_wp2
  go_ret
  exact ⟨rfl, hG0⟩
theorem right_at (x m : Int) (n : Nat) (hm : m = (n : Int)) (hn : 0 < n) (hn2 : n < 32) (w : World) : Calls Try.prog 99 #[.int .u32 x, .int .u64 m] w fun e w' => e = .returned (.int .u32 (rot x n)) ∧ w.grownBy w' none := by
  subst hm; exact right_any x n hn hn2 w
theorem turn_at (x m : Int) (n : Nat) (hm : m = (n : Int)) (hn : 0 < n) (hn2 : n < 32) (w : World) : Calls Try.prog 107 #[.int .u32 x, .int .i64 m] w fun e w' => e = .returned (.int .u32 (rot x n)) ∧ w.grownBy w' none := by
  subst hm; exact turn_any x n hn hn2 w
end Go.Proofs.Ytdjlchbgdehccaa

namespace Go.Proofs.Ytdjlchbgdehccaa
open Go.RowKit

def keyN : List Nat := [1116352408, 1899447441, 3049323471, 3921009573, 961987163, 1508970993, 2453635748, 2870763221, 3624381080, 310598401, 607225278, 1426881987, 1925078388, 2162078206, 2614888103, 3248222580, 3835390401, 4022224774, 264347078, 604807628, 770255983, 1249150122, 1555081692, 1996064986, 2554220882, 2821834349, 2952996808, 3210313671, 3336571891, 3584528711, 113926993, 338241895, 666307205, 773529912, 1294757372, 1396182291, 1695183700, 1986661051, 2177026350, 2456956037, 2730485921, 2820302411, 3259730800, 3345764771, 3516065817, 3600352804, 4094571909, 275423344, 430227734, 506948616, 659060556, 883997877, 958139571, 1322822218, 1537002063, 1747873779, 1955562222, 2024104815, 2227730452, 2361852424, 2428436474, 2756734187, 3204031479, 3329325298]
/-- Numbers as an array of words. -/
def arr (n : Nat) (f : Nat → Int) : Array Value := Array.ofFn (n := n) fun k => .int .u32 (f k)
def keyF (j : Nat) : Int := (keyN[j]?.getD 0 : Nat)
set_option maxRecDepth 100000 in
set_option maxHeartbeats 4000000 in
theorem keys_any (w : World) : Calls Try.prog 87 #[] w fun e w' => e = .returned (.agg (arr 64 keyF)) ∧ Below w.heap.size w w' := by
  go_enter Try.func87, Try.ntmps87
  go_wp2_with (refine wpList_store_blk rfl 116 (.tmp 0) (.tmp 1) rfl (Blk.new w 116 _) (arr 64 keyF) rfl (by kernel_rfl) (by kernel_rfl) (by kernel_rfl) (by kernel_rfl) ?_; intro w2 hB2 hg2 hs2)
  refine bodyPost_ret (results_cell_row rfl _ _ _ _ _ _ _ (by rfl) hB2 Try.underlying116 rfl (by kernel_rfl)) rfl ⟨?_, ?_⟩
  · rfl
  · exact ((Below.refl _ _).alloc (Nat.le_refl _) _).trans (below_grown hg2 (by simp) (fun g e => by injection e with e; omega))
set_option maxRecDepth 100000 in
set_option maxHeartbeats 4000000 in
theorem key_any (w : World) : Calls Try.prog 108 #[] w fun e w' => e = .returned (.agg (arr 64 keyF)) ∧ Below w.heap.size w w' := by
  go_enter Try.func108, Try.ntmps108
  go_wp2_with (refine wpList_store_blk rfl 116 (.tmp 0) (.tmp 1) rfl (Blk.new w 116 _) (arr 64 keyF) rfl (by kernel_rfl) (by kernel_rfl) (by kernel_rfl) (by kernel_rfl) ?_; intro w2 hB2 hg2 hs2)
  refine bodyPost_ret (results_cell_row rfl _ _ _ _ _ _ _ (by rfl) hB2 Try.underlying116 rfl (by kernel_rfl)) rfl ⟨?_, ?_⟩
  · rfl
  · exact ((Below.refl _ _).alloc (Nat.le_refl _) _).trans (below_grown hg2 (by simp) (fun g e => by injection e with e; omega))
end Go.Proofs.Ytdjlchbgdehccaa

namespace Go.Proofs.Ytdjlchbgdehccaa
open Go.RowKit

def upd (f : Nat → Int) (i : Nat) (x : Int) : Nat → Int := fun k => if k = i then x else f k
theorem arr_size (n : Nat) (f : Nat → Int) : (arr n f).size = n := by simp [arr]
theorem arr_get {n j : Nat} {f : Nat → Int} (h : j < n) : (arr n f)[j]? = some (.int .u32 (f j)) := by
  unfold arr
  rw [Array.getElem?_ofFn, dif_pos h]
theorem arr_set (n : Nat) (f : Nat → Int) (i : Nat) (x : Int) : (arr n f).setIfInBounds i (.int .u32 x) = arr n (upd f i x) := by
  apply Array.ext_getElem?
  intro j
  by_cases hj : j < n
  · rw [arr_get hj]
    by_cases e : i = j
    · subst e
      rw [Array.getElem?_setIfInBounds_self_of_lt (by rw [arr_size]; exact hj)]
      simp [upd]
    · rw [Array.getElem?_setIfInBounds_ne e, arr_get hj]
      have : ¬ j = i := fun h => e h.symm
      simp [upd, this]
  · rw [Array.getElem?_eq_none (by rw [Array.size_setIfInBounds, arr_size]; omega), Array.getElem?_eq_none (by rw [arr_size]; omega)]
theorem arr_congr {n : Nat} {f g : Nat → Int} (h : ∀ k, k < n → f k = g k) : arr n f = arr n g := by
  apply Array.ext_getElem?
  intro j
  by_cases hj : j < n
  · rw [arr_get hj, arr_get hj, h j hj]
  · rw [Array.getElem?_eq_none (by rw [arr_size]; omega), Array.getElem?_eq_none (by rw [arr_size]; omega)]
/-- A word of four bytes. -/
def word4 (b : Nat → Int) (i : Nat) : Int :=
  bits .or .u32 (bits .or .u32 (bits .or .u32 (b (4 * i) % 4294967296 * 16777216 % 4294967296) (b (4 * i + 1) % 4294967296 * 65536 % 4294967296)) (b (4 * i + 2) % 4294967296 * 256 % 4294967296)) (b (4 * i + 3) % 4294967296)
def sg0 (x : Int) : Int := bits .xor .u32 (bits .xor .u32 (rot x 7) (rot x 18)) (x / 8)
def sg1 (x : Int) : Int := bits .xor .u32 (bits .xor .u32 (rot x 17) (rot x 19)) (x / 1024)
def wst (f : Nat → Int) (i : Nat) : Int := (f (i - 16) + f (i - 7) + sg0 (f (i - 15)) + sg1 (f (i - 2))) % 4294967296
def wordsF (b : Nat → Int) : Nat → Nat → Int
  | 0 => fun _ => 0
  | i + 1 => upd (wordsF b i) i (if i < 16 then word4 b i else wst (wordsF b i) i)
theorem arr_zero : arr 64 (fun _ => 0) = #[.int .u32 0, .int .u32 0, .int .u32 0, .int .u32 0, .int .u32 0, .int .u32 0, .int .u32 0, .int .u32 0, .int .u32 0, .int .u32 0, .int .u32 0, .int .u32 0, .int .u32 0, .int .u32 0, .int .u32 0, .int .u32 0, .int .u32 0, .int .u32 0, .int .u32 0, .int .u32 0, .int .u32 0, .int .u32 0, .int .u32 0, .int .u32 0, .int .u32 0, .int .u32 0, .int .u32 0, .int .u32 0, .int .u32 0, .int .u32 0, .int .u32 0, .int .u32 0, .int .u32 0, .int .u32 0, .int .u32 0, .int .u32 0, .int .u32 0, .int .u32 0, .int .u32 0, .int .u32 0, .int .u32 0, .int .u32 0, .int .u32 0, .int .u32 0, .int .u32 0, .int .u32 0, .int .u32 0, .int .u32 0, .int .u32 0, .int .u32 0, .int .u32 0, .int .u32 0, .int .u32 0, .int .u32 0, .int .u32 0, .int .u32 0, .int .u32 0, .int .u32 0, .int .u32 0, .int .u32 0, .int .u32 0, .int .u32 0, .int .u32 0, .int .u32 0] := by kernel_rfl
def bs0 (x : Int) : Int := bits .xor .u32 (bits .xor .u32 (rot x 2) (rot x 13)) (rot x 22)
def bs1 (x : Int) : Int := bits .xor .u32 (bits .xor .u32 (rot x 6) (rot x 11)) (rot x 25)
def tF (kj wj : Int) (s : Nat → Int) : Int := (s 7 + bs1 (s 4) + bits .xor .u32 (bits .and .u32 (s 4) (s 5)) (bits .and .u32 (bits .xor .u32 IntKind.u32.max (s 4)) (s 6)) + kj + wj) % 4294967296
def uF (s : Nat → Int) : Int := (bs0 (s 0) + bits .xor .u32 (bits .xor .u32 (bits .and .u32 (s 0) (s 1)) (bits .and .u32 (s 0) (s 2))) (bits .and .u32 (s 1) (s 2))) % 4294967296
def rndF (kj wj : Int) (s : Nat → Int) : Nat → Int
  | 0 => (tF kj wj s + uF s) % 4294967296
  | 1 => s 0
  | 2 => s 1
  | 3 => s 2
  | 4 => (s 3 + tF kj wj s) % 4294967296
  | 5 => s 4
  | 6 => s 5
  | _ => s 6
def rndsF (h kf wf : Nat → Int) : Nat → Nat → Int
  | 0 => h
  | j + 1 => rndF (kf j) (wf j) (rndsF h kf wf j)
def addF (h x : Nat → Int) : Nat → Nat → Int
  | 0 => h
  | i + 1 => upd (addF h x i) i ((addF h x i i + x i) % 4294967296)
/-- What a block makes of eight words. -/
def blockF (h kf b : Nat → Int) : Nat → Int := addF h (rndsF h kf (wordsF b 64) 64) 8
def cells8 (f : Nat → Int) : Array Value := #[.int .u32 (f 0), .int .u32 (f 1), .int .u32 (f 2), .int .u32 (f 3), .int .u32 (f 4), .int .u32 (f 5), .int .u32 (f 6), .int .u32 (f 7)]
theorem arr8 (f : Nat → Int) : arr 8 f = cells8 f := rfl
/-- What lies in memory while a block is digested. -/
structure BlkAt (w : World) (h kf : Nat → Int) (z : Array Value) (f : Nat → Int) (W : World) : Prop where
  hB : Blk W w.heap.size 115 (arr 8 h)
  kB : Blk W (w.heap.size + 1) 116 (arr 64 kf)
  rB : Blk W (w.heap.size + 1 + 1) 115 z
  wB : Blk W (w.heap.size + 1 + 1 + 1) 116 (arr 64 f)
  below : Below w.heap.size w W
theorem BlkAt.start (w : World) (h kf : Nat → Int) (z : Array Value) (f : Nat → Int) : BlkAt w h kf z f ((((w.alloc (.cells (arr 8 h) 115)).alloc (.cells (arr 64 kf) 116)).alloc (.cells z 115)).alloc (.cells (arr 64 f) 116)) := by
  refine ⟨(((Blk.new w _ _).alloc _).alloc _).alloc _, ?_, ?_, ?_, ((((Below.refl _ _).alloc (Nat.le_refl _) _).alloc (by simp) _).alloc (by simp; omega) _).alloc (by simp; omega) _⟩
  · have := ((Blk.new (w.alloc (.cells (arr 8 h) 115)) 116 (arr 64 kf)).alloc (.cells z 115)).alloc (.cells (arr 64 f) 116)
    simpa only [World.size_alloc] using this
  · have := (Blk.new ((w.alloc (.cells (arr 8 h) 115)).alloc (.cells (arr 64 kf) 116)) 115 z).alloc (.cells (arr 64 f) 116)
    simpa only [World.size_alloc] using this
  · have := Blk.new (((w.alloc (.cells (arr 8 h) 115)).alloc (.cells (arr 64 kf) 116)).alloc (.cells z 115)) 116 (arr 64 f)
    simpa only [World.size_alloc] using this
theorem BlkAt.grown {w W W' : World} {h kf f : Nat → Int} {z : Array Value} (H : BlkAt w h kf z f W) (hg : W.grownBy W' none) : BlkAt w h kf z f W' :=
  ⟨H.hB.grown hg (by simp), H.kB.grown hg (by simp), H.rB.grown hg (by simp), H.wB.grown hg (by simp), H.below.trans (below_grown hg H.below.size (fun g e => by cases e))⟩
theorem BlkAt.set {w W : World} {h kf f : Nat → Int} {z : Array Value} (H : BlkAt w h kf z f W) (i : Nat) (x : Int) : BlkAt w h kf z (upd f i x) ((W.setCell ⟨w.heap.size + 1 + 1 + 1, i, none⟩ (.int .u32 x)).drew) := by
  refine ⟨H.hB.set_ne ⟨w.heap.size + 1 + 1 + 1, i, none⟩ _ (by show w.heap.size ≠ w.heap.size + 1 + 1 + 1; omega), H.kB.set_ne ⟨w.heap.size + 1 + 1 + 1, i, none⟩ _ (by show w.heap.size + 1 ≠ w.heap.size + 1 + 1 + 1; omega), H.rB.set_ne ⟨w.heap.size + 1 + 1 + 1, i, none⟩ _ (by show w.heap.size + 1 + 1 ≠ w.heap.size + 1 + 1 + 1; omega), ?_, (H.below.setCell (p := ⟨w.heap.size + 1 + 1 + 1, i, none⟩) (by show w.heap.size ≤ w.heap.size + 1 + 1 + 1; omega) _).drew⟩
  have := H.wB.set i (.int .u32 x)
  rw [arr_set] at this
  exact this
/-- The same, and the eight words that are turned. -/
structure RndAt (w : World) (h kf : Nat → Int) (z : Array Value) (f : Nat → Int) (xg : Nat) (s : Nat → Int) (W : World) : Prop where
  blk : BlkAt w h kf z f W
  xB : Blk W xg 115 (arr 8 s)
  far : w.heap.size + 1 + 1 + 1 < xg
theorem BlkAt.row {w W W' : World} {h kf f : Nat → Int} {z : Array Value} {xg : Nat} (H : BlkAt w h kf z f W) (hx : w.heap.size + 1 + 1 + 1 < xg) (hg : W.grownBy W' (some xg)) : BlkAt w h kf z f W' :=
  ⟨H.hB.grown hg (fun e => by injection e with e; omega), H.kB.grown hg (fun e => by injection e with e; omega), H.rB.grown hg (fun e => by injection e with e; omega), H.wB.grown hg (fun e => by injection e with e; omega), H.below.trans (below_grown hg H.below.size (fun g e => by injection e with e; omega))⟩
theorem BlkAt.alloc {w W : World} {h kf f : Nat → Int} {z : Array Value} (H : BlkAt w h kf z f W) (o : Obj) : BlkAt w h kf z f (W.alloc o) :=
  ⟨H.hB.alloc o, H.kB.alloc o, H.rB.alloc o, H.wB.alloc o, H.below.alloc H.below.size o⟩
theorem RndAt.grown {w W W' : World} {h kf f s : Nat → Int} {z : Array Value} {xg : Nat} (H : RndAt w h kf z f xg s W) (hg : W.grownBy W' none) : RndAt w h kf z f xg s W' :=
  ⟨H.blk.grown hg, H.xB.grown hg (by simp), H.far⟩
theorem RndAt.put {w W : World} {h kf f s : Nat → Int} {z : Array Value} {xg : Nat} (H : RndAt w h kf z f xg s W) (i : Nat) (x : Int) : RndAt w h kf z f xg (upd s i x) (W.setCell ⟨xg, i, none⟩ (.int .u32 x)) := by
  refine ⟨H.blk.row H.far ⟨rfl, rfl, rfl, by simp [World.setCell], fun k _ hne => heap_setCell_other W ⟨xg, i, none⟩ k _ fun e => hne (by rw [e])⟩, ?_, H.far⟩
  have := H.xB.set i (.int .u32 x)
  rw [arr_set] at this
  exact this
theorem RndAt.congr {w W : World} {h kf f s s' : Nat → Int} {z : Array Value} {xg : Nat} (H : RndAt w h kf z f xg s W) (e : ∀ k, k < 8 → s k = s' k) : RndAt w h kf z f xg s' W :=
  ⟨H.blk, by have := H.xB; rw [arr_congr e] at this; exact this, H.far⟩
theorem RndAt.add {w W : World} {h kf f s : Nat → Int} {z : Array Value} {xg : Nat} (H : RndAt w h kf z f xg s W) (i : Nat) (x : Int) : RndAt w (upd h i x) kf z f xg s ((W.setCell ⟨w.heap.size, i, none⟩ (.int .u32 x)).drew) := by
  have hf := H.far
  refine ⟨⟨?_, H.blk.kB.set_ne ⟨w.heap.size, i, none⟩ _ (by show w.heap.size + 1 ≠ w.heap.size; omega), H.blk.rB.set_ne ⟨w.heap.size, i, none⟩ _ (by show w.heap.size + 1 + 1 ≠ w.heap.size; omega), H.blk.wB.set_ne ⟨w.heap.size, i, none⟩ _ (by show w.heap.size + 1 + 1 + 1 ≠ w.heap.size; omega), (H.blk.below.setCell (p := ⟨w.heap.size, i, none⟩) (Nat.le_refl _) _).drew⟩, H.xB.set_ne ⟨w.heap.size, i, none⟩ _ (by show xg ≠ w.heap.size; omega), H.far⟩
  have := H.blk.hB.set i (.int .u32 x)
  rw [arr_set] at this
  exact this
set_option maxRecDepth 100000 in
set_option maxHeartbeats 40000000 in
theorem block_any (h0 b kf : Nat → Int) (bl off c : Nat) (w : World) (hbl : bl < w.heap.size) (hb : ∀ j, j < 64 → w.cell? ⟨bl, off + j, none⟩ = some (.int .u8 (b j))) :
    Calls Try.prog 88 #[.agg (arr 8 h0), .slice (some ⟨bl, off, none⟩) 64 c, .agg (arr 64 kf)] w fun e w' => e = .returned (.agg (arr 8 (blockF h0 kf b))) ∧ Below w.heap.size w w' := by
  have HB := Lib.hid hb; clear hb
  go_enter Try.func88, Try.ntmps88
  go_upto_region 2 with (fail)
  rw [← arr_zero]
  have H0 := BlkAt.start w h0 kf #[.int .u32 0, .int .u32 0, .int .u32 0, .int .u32 0, .int .u32 0, .int .u32 0, .int .u32 0, .int .u32 0] (wordsF b 0)
  have H0' := Lib.hid H0; clear H0
  go_wp2
  go_loopw [8] (fun v wr => ∃ i : Nat, i ≤ 16 ∧ v = .int .i64 i ∧ BlkAt w h0 kf #[.int .u32 0, .int .u32 0, .int .u32 0, .int .u32 0, .int .u32 0, .int .u32 0, .int .u32 0, .int .u32 0] (wordsF b i) wr) (fun v _ => 16 - (intOf v).toNat)
  case atStart => exact ⟨0, Nat.zero_le _, rfl, H0'.out⟩
  case round =>
    clear H0'
    obtain ⟨i, hi, rfl, hA⟩ := hrel
    by_cases hlt : i < 16
    · have hii : (i : Int) < 16 := by omega
      have hbe := hA.below
      have q0 := (hbe.cell (p := ⟨bl, off + 4 * i, none⟩) hbl).trans (HB.out (4 * i) (by omega))
      have q1 := (hbe.cell (p := ⟨bl, off + (4 * i + 1), none⟩) hbl).trans (HB.out (4 * i + 1) (by omega))
      have q2 := (hbe.cell (p := ⟨bl, off + (4 * i + 2), none⟩) hbl).trans (HB.out (4 * i + 2) (by omega))
      have q3 := (hbe.cell (p := ⟨bl, off + (4 * i + 3), none⟩) hbl).trans (HB.out (4 * i + 3) (by omega))
      have hbw : bl < wr.heap.size := Nat.lt_of_lt_of_le hbl hbe.size
      have hww := hA.wB.lt
      have hwf := hA.wB.frozen i
      have hwc := (hA.wB.cell i).trans (arr_get (by omega))
      have HA' := Lib.hid (hA.set i (word4 b i))
      have HW := Lib.hid (show wordsF b (i + 1) = upd (wordsF b i) i (word4 b i) by rw [wordsF, if_pos hlt])
      clear hA hbe
      go_upto_region 5 with (fail)
      refine wp_region_ordG (none) [(0, true), (1, true), (2, true), (3, true), (4, true), (5, true), (6, true), (7, true), (8, true), (9, true), (10, true), (11, true), (12, true), (13, true), (14, true), (15, true), (16, true), (17, true), (18, true), (19, true), (20, true), (21, true), (22, true), (23, true), (24, true), (25, true), (26, true), (27, true), (28, true), (29, true), (30, true), (31, true), (32, true), (33, true), (34, true)] 35 (by kernel_rfl) (by kernel_rfl) fun hG0 => ?_
      repeat (first
        | (refine ord_skipB rfl (by rfl) ?_; simp only [Act.put, List.setIfInBounds_toArray, List.set_cons_zero, List.set_cons_succ])
        | (refine ord_qE rfl (by rfl) ?_; apply Exists.intro; refine ⟨fun w' hc' => ?_, ?_⟩; (focus (go_simp; (try go_bits); (try simp only [↓IntWalk.iteOmega]); with_reducible rfl)); simp only [Act.put, List.setIfInBounds_toArray, List.set_cons_zero, List.set_cons_succ]))
      refine ord_tail rfl fun K hK => ?_
      go_wp2_with (fail)
      refine hK.out _ _ ?_
      clear hK K
      clear q0 q1 q2 q3 hwf hwc hww hbw hG0
      go_wp2
      go_roundw
      case rel => exact ⟨i + 1, by omega, by go_num, by rw [HW.out]; exact HA'.out⟩
      case measure => simp [intOf]; omega
    · have hii : ¬ (i : Int) < 16 := by omega
      have hie : i = 16 := by omega
      have HA := Lib.hid (show BlkAt w h0 kf #[.int .u32 0, .int .u32 0, .int .u32 0, .int .u32 0, .int .u32 0, .int .u32 0, .int .u32 0, .int .u32 0] (wordsF b 16) wr by rw [← hie]; exact hA)
      clear hlt hi hie hA
      go_wp2
      go_loopw [9] (fun v wr => ∃ i : Nat, 16 ≤ i ∧ i ≤ 64 ∧ v = .int .i64 i ∧ BlkAt w h0 kf #[.int .u32 0, .int .u32 0, .int .u32 0, .int .u32 0, .int .u32 0, .int .u32 0, .int .u32 0, .int .u32 0] (wordsF b i) wr) (fun v _ => 64 - (intOf v).toNat)
      case atStart => exact ⟨16, by omega, by omega, rfl, HA.out⟩
      case round =>
        clear HA
        obtain ⟨i, hi0, hi, rfl, hA⟩ := hrel
        by_cases hlt : i < 64
        · have hii : (i : Int) < 64 := by omega
          have q15 := (hA.wB.cell (i - 15)).trans (arr_get (by omega))
          have hww := hA.wB.lt
          have HA := Lib.hid hA; clear hA
          go_upto_region 9 with (fail)
          refine wp_region_ordB (none) [(0, true), (1, true), (2, true), (3, true), (5, true), (6, true), (7, true), (8, true), (11, true), (12, true), (13, true), (14, true), (15, true), (4, false), (9, false), (10, true), (16, true), (17, true)] (by kernel_rfl) (by kernel_rfl) fun hG0 => ?_
          repeat (first
            | (refine ord_skipB rfl (by rfl) ?_; simp only [Act.put, List.setIfInBounds_toArray, List.set_cons_zero, List.set_cons_succ])
            | (refine ord_qE rfl (by rfl) ?_; apply Exists.intro; refine ⟨fun w' hc' => ?_, ?_⟩; (focus (go_simp; (try go_bits); (try simp only [↓IntWalk.iteOmega]); with_reducible rfl)); simp only [Act.put, List.setIfInBounds_toArray, List.set_cons_zero, List.set_cons_succ]))
          refine ord_eB rfl fun K hK => ?_
          go_wp2_with (go_at_call 99; refine (right_at _ _ 7 (by decide) (by decide) (by decide) _).mono ?_; rintro e v1 ⟨rfl, hv1⟩)
          have hG1 := grown_trans hG0 (hv1)
          refine hK.out _ _ hG1 ?_
          clear hK K
          repeat (first
            | (refine ord_skipB rfl (by rfl) ?_; simp only [Act.put, List.setIfInBounds_toArray, List.set_cons_zero, List.set_cons_succ])
            | (refine ord_qE rfl (by rfl) ?_; apply Exists.intro; refine ⟨fun w' hc' => ?_, ?_⟩; (focus (go_simp; (try go_bits); (try simp only [↓IntWalk.iteOmega]); with_reducible rfl)); simp only [Act.put, List.setIfInBounds_toArray, List.set_cons_zero, List.set_cons_succ]))
          refine ord_eB rfl fun K hK => ?_
          go_wp2_with (go_at_call 99; refine (right_at _ _ 18 (by decide) (by decide) (by decide) _).mono ?_; rintro e v2 ⟨rfl, hv2⟩)
          have hG2 := grown_trans hG1 (hv2)
          refine hK.out _ _ hG2 ?_
          clear hK K
          repeat (first
            | (refine ord_skipB rfl (by rfl) ?_; simp only [Act.put, List.setIfInBounds_toArray, List.set_cons_zero, List.set_cons_succ])
            | (refine ord_qE rfl (by rfl) ?_; apply Exists.intro; refine ⟨fun w' hc' => ?_, ?_⟩; (focus (go_simp; (try go_bits); (try simp only [↓IntWalk.iteOmega]); with_reducible rfl)); simp only [Act.put, List.setIfInBounds_toArray, List.set_cons_zero, List.set_cons_succ]))
          refine ord_end ?_
          have HA9 := Lib.hid (HA.out.grown hG2)
          clear hG0 hG1 hG2 hv1 hv2 q15 hww HA
          have q2 := (HA9.out.wB.cell (i - 2)).trans (arr_get (by omega))
          have hww := HA9.out.wB.lt
          go_upto_region 10 with (fail)
          refine wp_region_ordB (none) [(0, true), (1, true), (2, true), (3, true), (5, true), (6, true), (7, true), (8, true), (11, true), (12, true), (13, true), (14, true), (15, true), (4, false), (9, false), (10, true), (16, true), (17, true)] (by kernel_rfl) (by kernel_rfl) fun hG0 => ?_
          repeat (first
            | (refine ord_skipB rfl (by rfl) ?_; simp only [Act.put, List.setIfInBounds_toArray, List.set_cons_zero, List.set_cons_succ])
            | (refine ord_qE rfl (by rfl) ?_; apply Exists.intro; refine ⟨fun w' hc' => ?_, ?_⟩; (focus (go_simp; (try go_bits); (try simp only [↓IntWalk.iteOmega]); with_reducible rfl)); simp only [Act.put, List.setIfInBounds_toArray, List.set_cons_zero, List.set_cons_succ]))
          refine ord_eB rfl fun K hK => ?_
          go_wp2_with (go_at_call 99; refine (right_at _ _ 17 (by decide) (by decide) (by decide) _).mono ?_; rintro e v3 ⟨rfl, hv3⟩)
          have hG1 := grown_trans hG0 (hv3)
          refine hK.out _ _ hG1 ?_
          clear hK K
          repeat (first
            | (refine ord_skipB rfl (by rfl) ?_; simp only [Act.put, List.setIfInBounds_toArray, List.set_cons_zero, List.set_cons_succ])
            | (refine ord_qE rfl (by rfl) ?_; apply Exists.intro; refine ⟨fun w' hc' => ?_, ?_⟩; (focus (go_simp; (try go_bits); (try simp only [↓IntWalk.iteOmega]); with_reducible rfl)); simp only [Act.put, List.setIfInBounds_toArray, List.set_cons_zero, List.set_cons_succ]))
          refine ord_eB rfl fun K hK => ?_
          go_wp2_with (go_at_call 99; refine (right_at _ _ 19 (by decide) (by decide) (by decide) _).mono ?_; rintro e v4 ⟨rfl, hv4⟩)
          have hG2 := grown_trans hG1 (hv4)
          refine hK.out _ _ hG2 ?_
          clear hK K
          repeat (first
            | (refine ord_skipB rfl (by rfl) ?_; simp only [Act.put, List.setIfInBounds_toArray, List.set_cons_zero, List.set_cons_succ])
            | (refine ord_qE rfl (by rfl) ?_; apply Exists.intro; refine ⟨fun w' hc' => ?_, ?_⟩; (focus (go_simp; (try go_bits); (try simp only [↓IntWalk.iteOmega]); with_reducible rfl)); simp only [Act.put, List.setIfInBounds_toArray, List.set_cons_zero, List.set_cons_succ]))
          refine ord_end ?_
          have HA10 := Lib.hid (HA9.out.grown hG2)
          clear hG0 hG1 hG2 hv3 hv4 q2 hww HA9
          have q16 := (HA10.out.wB.cell (i - 16)).trans (arr_get (by omega))
          have q7 := (HA10.out.wB.cell (i - 7)).trans (arr_get (by omega))
          have hwc := (HA10.out.wB.cell i).trans (arr_get (by omega))
          have hwf := HA10.out.wB.frozen i
          have hww := HA10.out.wB.lt
          have HV := Lib.hid (show ∀ x, x = wst (wordsF b i) i → BlkAt w h0 kf #[.int .u32 0, .int .u32 0, .int .u32 0, .int .u32 0, .int .u32 0, .int .u32 0, .int .u32 0, .int .u32 0] (wordsF b (i + 1)) ((v4.setCell ⟨w.heap.size + 1 + 1 + 1, i, none⟩ (.int .u32 x)).drew) from fun x e => by
            have := HA10.out.set i x
            rw [e] at this ⊢
            rw [wordsF, if_neg (by omega)]
            exact this)
          go_upto_region 11 with (fail)
          refine wp_region_ordG (none) [(0, true), (1, true), (2, true), (3, true), (4, true), (5, true), (6, true), (7, true), (8, true), (9, true), (10, true), (11, true), (12, true), (13, true), (14, true)] 15 (by kernel_rfl) (by kernel_rfl) fun hG0 => ?_
          repeat (first
            | (refine ord_skipB rfl (by rfl) ?_; simp only [Act.put, List.setIfInBounds_toArray, List.set_cons_zero, List.set_cons_succ])
            | (refine ord_qE rfl (by rfl) ?_; apply Exists.intro; refine ⟨fun w' hc' => ?_, ?_⟩; (focus (go_simp; (try go_bits); (try simp only [↓IntWalk.iteOmega]); with_reducible rfl)); simp only [Act.put, List.setIfInBounds_toArray, List.set_cons_zero, List.set_cons_succ]))
          refine ord_tail rfl fun K hK => ?_
          go_wp2_with (fail)
          refine hK.out _ _ ?_
          clear hK K
          clear q16 q7 hwc hwf hww hG0 HA10
          go_wp2
          go_roundw
          case rel => exact ⟨i + 1, by omega, by omega, by go_num, HV.out _ (by unfold wst sg0 sg1; omega)⟩
          case measure => simp [intOf]; omega
        · have hii : ¬ (i : Int) < 64 := by omega
          have hie : i = 64 := by omega
          have HA := Lib.hid (show BlkAt w h0 kf #[.int .u32 0, .int .u32 0, .int .u32 0, .int .u32 0, .int .u32 0, .int .u32 0, .int .u32 0, .int .u32 0] (wordsF b 64) wr by rw [← hie]; exact hA)
          clear hlt hi hie hi0 hA
          go_upto_region 13 with (first | (refine wpList_load_row rfl 115 (.tmp 3) rfl w.heap.size rfl 115 (arr 8 h0) (0, 0) _ HA.out.hB Try.underlying115 rfl (by kernel_rfl) ?_) | (refine wpList_store_blk rfl 115 (.tmp 12) (.tmp 113) rfl (Blk.new wr 115 _) (arr 8 h0) rfl rfl (by kernel_rfl) (by kernel_rfl) (by kernel_rfl) ?_; intro w5 hX5 hg5 hs5))
          have hfar : w.heap.size + 1 + 1 + 1 < wr.heap.size := HA.out.wB.lt
          have HR := Lib.hid (show RndAt w h0 kf #[.int .u32 0, .int .u32 0, .int .u32 0, .int .u32 0, .int .u32 0, .int .u32 0, .int .u32 0, .int .u32 0] (wordsF b 64) wr.heap.size (rndsF h0 kf (wordsF b 64) 0) w5 from ⟨(HA.out.alloc _).row hfar hg5, hX5, hfar⟩)
          obtain ⟨xg, hxg⟩ : ∃ g, wr.heap.size = g := ⟨_, rfl⟩
          rw [hxg] at HR ⊢
          clear hxg hg5 hs5 hX5 hfar HA
          go_wp2
          go_loopw [13] (fun v wr => ∃ j : Nat, j ≤ 64 ∧ v = .int .i64 j ∧ RndAt w h0 kf #[.int .u32 0, .int .u32 0, .int .u32 0, .int .u32 0, .int .u32 0, .int .u32 0, .int .u32 0, .int .u32 0] (wordsF b 64) xg (rndsF h0 kf (wordsF b 64) j) wr) (fun v _ => 64 - (intOf v).toNat)
          case atStart => exact ⟨0, Nat.zero_le _, rfl, HR.out⟩
          case round =>
          clear HR
          obtain ⟨j, hj, rfl, hA⟩ := hrel
          by_cases hlt : j < 64
          · have hji : (j : Int) < 64 := by omega
            obtain ⟨s, hs⟩ : ∃ s, rndsF h0 kf (wordsF b 64) j = s := ⟨_, rfl⟩
            have HSn := Lib.hid (show rndsF h0 kf (wordsF b 64) (j + 1) = rndF (kf j) (wordsF b 64 j) s by rw [rndsF, hs])
            rw [hs] at hA
            have HA := Lib.hid hA; clear hA hs
            have x4 := (HA.out.xB.cell 4).trans (arr_get (by omega))
            have hxw := HA.out.xB.lt
            go_upto_region 16 with (fail)
            refine wp_region_ordB (none) [(0, true), (1, true), (3, true), (4, true), (7, true), (8, true), (2, false), (5, false), (6, true), (9, false), (10, true), (11, true)] (by kernel_rfl) (by kernel_rfl) fun hG0 => ?_
            repeat (first
              | (refine ord_skipB rfl (by rfl) ?_; simp only [Act.put, List.setIfInBounds_toArray, List.set_cons_zero, List.set_cons_succ])
              | (refine ord_qE rfl (by rfl) ?_; apply Exists.intro; refine ⟨fun w' hc' => ?_, ?_⟩; (focus (go_simp; (try go_bits); (try simp only [↓IntWalk.iteOmega]); with_reducible rfl)); simp only [Act.put, List.setIfInBounds_toArray, List.set_cons_zero, List.set_cons_succ]))
            refine ord_eB rfl fun K hK => ?_
            go_wp2_with (go_at_call 99; refine (right_at _ _ 6 (by decide) (by decide) (by decide) _).mono ?_; rintro e v1 ⟨rfl, hv1⟩)
            have hG1 := grown_trans hG0 (hv1)
            refine hK.out _ _ hG1 ?_
            clear hK K
            repeat (first
              | (refine ord_skipB rfl (by rfl) ?_; simp only [Act.put, List.setIfInBounds_toArray, List.set_cons_zero, List.set_cons_succ])
              | (refine ord_qE rfl (by rfl) ?_; apply Exists.intro; refine ⟨fun w' hc' => ?_, ?_⟩; (focus (go_simp; (try go_bits); (try simp only [↓IntWalk.iteOmega]); with_reducible rfl)); simp only [Act.put, List.setIfInBounds_toArray, List.set_cons_zero, List.set_cons_succ]))
            refine ord_eB rfl fun K hK => ?_
            go_wp2_with (go_at_call 99; refine (right_at _ _ 11 (by decide) (by decide) (by decide) _).mono ?_; rintro e v2 ⟨rfl, hv2⟩)
            have hG2 := grown_trans hG1 (hv2)
            refine hK.out _ _ hG2 ?_
            clear hK K
            repeat (first
              | (refine ord_skipB rfl (by rfl) ?_; simp only [Act.put, List.setIfInBounds_toArray, List.set_cons_zero, List.set_cons_succ])
              | (refine ord_qE rfl (by rfl) ?_; apply Exists.intro; refine ⟨fun w' hc' => ?_, ?_⟩; (focus (go_simp; (try go_bits); (try simp only [↓IntWalk.iteOmega]); with_reducible rfl)); simp only [Act.put, List.setIfInBounds_toArray, List.set_cons_zero, List.set_cons_succ]))
            refine ord_eB rfl fun K hK => ?_
            go_wp2_with (go_at_call 99; refine (right_at _ _ 25 (by decide) (by decide) (by decide) _).mono ?_; rintro e v3 ⟨rfl, hv3⟩)
            have hG3 := grown_trans hG2 (hv3)
            refine hK.out _ _ hG3 ?_
            clear hK K
            repeat (first
              | (refine ord_skipB rfl (by rfl) ?_; simp only [Act.put, List.setIfInBounds_toArray, List.set_cons_zero, List.set_cons_succ])
              | (refine ord_qE rfl (by rfl) ?_; apply Exists.intro; refine ⟨fun w' hc' => ?_, ?_⟩; (focus (go_simp; (try go_bits); (try simp only [↓IntWalk.iteOmega]); with_reducible rfl)); simp only [Act.put, List.setIfInBounds_toArray, List.set_cons_zero, List.set_cons_succ]))
            refine ord_end ?_
            have HA1 := Lib.hid (HA.out.grown hG3)
            clear hG0 hG1 hG2 hG3 hv1 hv2 hv3 x4 hxw HA
            have x4 := (HA1.out.xB.cell 4).trans (arr_get (by omega))
            have x5 := (HA1.out.xB.cell 5).trans (arr_get (by omega))
            have x6 := (HA1.out.xB.cell 6).trans (arr_get (by omega))
            have x7 := (HA1.out.xB.cell 7).trans (arr_get (by omega))
            have hkc := (HA1.out.blk.kB.cell j).trans (arr_get hlt)
            have hwc := (HA1.out.blk.wB.cell j).trans (arr_get hlt)
            have hxw := HA1.out.xB.lt
            have hkw := HA1.out.blk.kB.lt
            have hww := HA1.out.blk.wB.lt
            go_upto_region 18 with (fail)
            refine wp_region_ordB (none) [(0, true), (1, true), (2, true), (3, true), (4, true), (5, true), (6, true), (7, true), (8, true), (9, true), (10, true), (11, true), (12, true), (13, true), (14, true)] (by kernel_rfl) (by kernel_rfl) fun hG0 => ?_
            repeat (first
              | (refine ord_skipB rfl (by rfl) ?_; simp only [Act.put, List.setIfInBounds_toArray, List.set_cons_zero, List.set_cons_succ])
              | (refine ord_qE rfl (by rfl) ?_; apply Exists.intro; refine ⟨fun w' hc' => ?_, ?_⟩; (focus (go_simp; (try go_bits); (try simp only [↓IntWalk.iteOmega]); with_reducible rfl)); simp only [Act.put, List.setIfInBounds_toArray, List.set_cons_zero, List.set_cons_succ]))
            refine ord_end ?_
            have HA2 := Lib.hid (HA1.out.grown hG0)
            clear hG0 x4 x5 x6 x7 hkc hwc hxw hkw hww HA1
            obtain ⟨W2, hW2⟩ : ∃ W, v3.drew = W := ⟨_, rfl⟩
            rw [hW2] at HA2 ⊢
            clear hW2
            have x0 := (HA2.out.xB.cell 0).trans (arr_get (by omega))
            have hxw := HA2.out.xB.lt
            go_upto_region 19 with (fail)
            refine wp_region_ordB (none) [(0, true), (1, true), (3, true), (4, true), (7, true), (8, true), (2, false), (5, false), (6, true), (9, false), (10, true), (11, true)] (by kernel_rfl) (by kernel_rfl) fun hG0 => ?_
            repeat (first
              | (refine ord_skipB rfl (by rfl) ?_; simp only [Act.put, List.setIfInBounds_toArray, List.set_cons_zero, List.set_cons_succ])
              | (refine ord_qE rfl (by rfl) ?_; apply Exists.intro; refine ⟨fun w' hc' => ?_, ?_⟩; (focus (go_simp; (try go_bits); (try simp only [↓IntWalk.iteOmega]); with_reducible rfl)); simp only [Act.put, List.setIfInBounds_toArray, List.set_cons_zero, List.set_cons_succ]))
            refine ord_eB rfl fun K hK => ?_
            go_wp2_with (go_at_call 99; refine (right_at _ _ 2 (by decide) (by decide) (by decide) _).mono ?_; rintro e v4 ⟨rfl, hv4⟩)
            have hG1 := grown_trans hG0 (hv4)
            refine hK.out _ _ hG1 ?_
            clear hK K
            repeat (first
              | (refine ord_skipB rfl (by rfl) ?_; simp only [Act.put, List.setIfInBounds_toArray, List.set_cons_zero, List.set_cons_succ])
              | (refine ord_qE rfl (by rfl) ?_; apply Exists.intro; refine ⟨fun w' hc' => ?_, ?_⟩; (focus (go_simp; (try go_bits); (try simp only [↓IntWalk.iteOmega]); with_reducible rfl)); simp only [Act.put, List.setIfInBounds_toArray, List.set_cons_zero, List.set_cons_succ]))
            refine ord_eB rfl fun K hK => ?_
            go_wp2_with (go_at_call 99; refine (right_at _ _ 13 (by decide) (by decide) (by decide) _).mono ?_; rintro e v5 ⟨rfl, hv5⟩)
            have hG2 := grown_trans hG1 (hv5)
            refine hK.out _ _ hG2 ?_
            clear hK K
            repeat (first
              | (refine ord_skipB rfl (by rfl) ?_; simp only [Act.put, List.setIfInBounds_toArray, List.set_cons_zero, List.set_cons_succ])
              | (refine ord_qE rfl (by rfl) ?_; apply Exists.intro; refine ⟨fun w' hc' => ?_, ?_⟩; (focus (go_simp; (try go_bits); (try simp only [↓IntWalk.iteOmega]); with_reducible rfl)); simp only [Act.put, List.setIfInBounds_toArray, List.set_cons_zero, List.set_cons_succ]))
            refine ord_eB rfl fun K hK => ?_
            go_wp2_with (go_at_call 99; refine (right_at _ _ 22 (by decide) (by decide) (by decide) _).mono ?_; rintro e v6 ⟨rfl, hv6⟩)
            have hG3 := grown_trans hG2 (hv6)
            refine hK.out _ _ hG3 ?_
            clear hK K
            repeat (first
              | (refine ord_skipB rfl (by rfl) ?_; simp only [Act.put, List.setIfInBounds_toArray, List.set_cons_zero, List.set_cons_succ])
              | (refine ord_qE rfl (by rfl) ?_; apply Exists.intro; refine ⟨fun w' hc' => ?_, ?_⟩; (focus (go_simp; (try go_bits); (try simp only [↓IntWalk.iteOmega]); with_reducible rfl)); simp only [Act.put, List.setIfInBounds_toArray, List.set_cons_zero, List.set_cons_succ]))
            refine ord_end ?_
            have HA3 := Lib.hid (HA2.out.grown hG3)
            clear hG0 hG1 hG2 hG3 hv4 hv5 hv6 x0 hxw HA2
            have x0 := (HA3.out.xB.cell 0).trans (arr_get (by omega))
            have x1 := (HA3.out.xB.cell 1).trans (arr_get (by omega))
            have x2 := (HA3.out.xB.cell 2).trans (arr_get (by omega))
            have x3 := (HA3.out.xB.cell 3).trans (arr_get (by omega))
            have x4 := (HA3.out.xB.cell 4).trans (arr_get (by omega))
            have x5 := (HA3.out.xB.cell 5).trans (arr_get (by omega))
            have x6 := (HA3.out.xB.cell 6).trans (arr_get (by omega))
            go_upto_region 22 with (fail)
            generalize hT : (s 7 + bits .xor .u32 (bits .xor .u32 (rot (s 4) 6) (rot (s 4) 11)) (rot (s 4) 25) + bits .xor .u32 (bits .and .u32 (s 4) (s 5)) (bits .and .u32 (bits .xor .u32 IntKind.u32.max (s 4)) (s 6)) + kf j + wordsF b 64 j) % 4294967296 = T
            generalize hU : (bits .xor .u32 (bits .xor .u32 (rot (s 0) 2) (rot (s 0) 13)) (rot (s 0) 22) + bits .xor .u32 (bits .xor .u32 (bits .and .u32 (s 0) (s 1)) (bits .and .u32 (s 0) (s 2))) (bits .and .u32 (s 1) (s 2))) % 4294967296 = U
            have HT := Lib.hid (show tF (kf j) (wordsF b 64 j) s = T from hT)
            have HU := Lib.hid (show uF s = U from hU)
            clear hT hU
            have x7 := (HA3.out.xB.cell 7).trans (arr_get (by omega))
            have hxw := HA3.out.xB.lt
            have f0 := HA3.out.xB.frozen 0; have f1 := HA3.out.xB.frozen 1; have f2 := HA3.out.xB.frozen 2; have f3 := HA3.out.xB.frozen 3
            have f4 := HA3.out.xB.frozen 4; have f5 := HA3.out.xB.frozen 5; have f6 := HA3.out.xB.frozen 6; have f7 := HA3.out.xB.frozen 7
            have HA7 := Lib.hid ((((((((((HA3.out.put 0 ((T + U) % 4294967296)).put 1 (s 0)).put 2 (s 1)).put 3 (s 2)).put 4 ((s 3 + T) % 4294967296)).put 5 (s 4)).put 6 (s 5)).put 7 (s 6))).congr (s' := rndsF h0 kf (wordsF b 64) (j + 1)) (fun k hk => by
              rw [HSn.out]
              have hc : k = 0 ∨ k = 1 ∨ k = 2 ∨ k = 3 ∨ k = 4 ∨ k = 5 ∨ k = 6 ∨ k = 7 := by omega
              rcases hc with rfl | rfl | rfl | rfl | rfl | rfl | rfl | rfl <;> simp [upd, rndF, HT.out, HU.out]))
            clear HA3
            go_wp2
            go_roundw
            case rel => exact ⟨j + 1, by omega, by go_num, HA7.out⟩
            case measure => simp [intOf]; omega
          · have hji : ¬ (j : Int) < 64 := by omega
            have hje : j = 64 := by omega
            rw [hje] at hA
            have HA := Lib.hid hA
            clear hje hlt hj hA
            obtain ⟨X, hX⟩ : ∃ X, rndsF h0 kf (wordsF b 64) 64 = X := ⟨_, rfl⟩
            have HE := Lib.hid (show blockF h0 kf b = addF h0 X 8 by rw [← hX]; rfl)
            obtain ⟨wf, hwf⟩ : ∃ f, wordsF b 64 = f := ⟨_, rfl⟩
            rw [hX, hwf] at HA
            clear hX hwf
            go_wp2
            go_loopw [20] (fun v wr => ∃ i : Nat, i ≤ 8 ∧ v = .int .i64 i ∧ RndAt w (addF h0 X i) kf #[.int .u32 0, .int .u32 0, .int .u32 0, .int .u32 0, .int .u32 0, .int .u32 0, .int .u32 0, .int .u32 0] wf xg X wr) (fun v _ => 8 - (intOf v).toNat)
            case atStart => exact ⟨0, Nat.zero_le _, rfl, HA.out⟩
            case round =>
            clear HA
            obtain ⟨i, hi, rfl, hA⟩ := hrel
            by_cases hlt : i < 8
            · have hii : (i : Int) < 8 := by omega
              have HA := Lib.hid hA; clear hA
              have q0 := (HA.out.blk.hB.cell i).trans (arr_get hlt)
              have q1 := (HA.out.xB.cell i).trans (arr_get hlt)
              have hhw := HA.out.blk.hB.lt
              have hxw := HA.out.xB.lt
              have hhf := HA.out.blk.hB.frozen i
              have HA' := Lib.hid (HA.out.add i ((addF h0 X i i + X i) % 4294967296))
              clear HA
              go_upto_region 26 with (fail)
              refine wp_region_ordG (none) [(0, true), (1, true), (2, true), (3, true), (4, true), (5, true), (6, true), (7, true), (8, true)] 9 (by kernel_rfl) (by kernel_rfl) fun hG0 => ?_
              repeat (first
                | (refine ord_skipB rfl (by rfl) ?_; simp only [Act.put, List.setIfInBounds_toArray, List.set_cons_zero, List.set_cons_succ])
                | (refine ord_qE rfl (by rfl) ?_; apply Exists.intro; refine ⟨fun w' hc' => ?_, ?_⟩; (focus (go_simp; (try go_bits); (try simp only [↓IntWalk.iteOmega]); with_reducible rfl)); simp only [Act.put, List.setIfInBounds_toArray, List.set_cons_zero, List.set_cons_succ]))
              refine ord_tail rfl fun K hK => ?_
              go_wp2_with (fail)
              refine hK.out _ _ ?_
              clear hK K
              clear q0 q1 hhw hxw hhf hG0
              go_wp2
              go_roundw
              case rel => exact ⟨i + 1, by omega, by go_num, HA'.out⟩
              case measure => simp [intOf]; omega
            · have hii : ¬ (i : Int) < 8 := by omega
              have hie : i = 8 := by omega
              rw [hie, ← HE.out] at hA
              obtain ⟨Y, hY⟩ : ∃ Y, blockF h0 kf b = Y := ⟨_, rfl⟩
              rw [hY] at hA
              have HY := Lib.hid hY
              clear hie hlt hi hY HE
              have HA := Lib.hid hA; clear hA
              go_wp2_with (first | (refine wpList_load_row rfl 115 (.tmp 3) rfl w.heap.size rfl 115 (arr 8 Y) (0, 0) _ HA.out.blk.hB Try.underlying115 rfl (by kernel_rfl) ?_) | (refine wpList_store_blk rfl 115 (.tmp 6) (.tmp 219) rfl HA.out.blk.rB (arr 8 Y) rfl rfl (by kernel_rfl) (by kernel_rfl) (by kernel_rfl) ?_; intro w6 hX6 hg6 hs6))
              refine bodyPost_ret (results_cell_row rfl _ _ _ _ _ _ _ (by rfl) hX6 Try.underlying115 rfl (by kernel_rfl)) rfl ⟨?_, ?_⟩
              · rw [HY.out]
              · exact HA.out.blk.below.trans (below_grown hg6 HA.out.blk.below.size (fun g e => by injection e with e; omega))
end Go.Proofs.Ytdjlchbgdehccaa
