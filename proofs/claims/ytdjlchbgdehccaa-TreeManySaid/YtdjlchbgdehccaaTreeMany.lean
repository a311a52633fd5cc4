/- TreeMany. -/
import Derived.Test.YtdjlchbgdehccaaAliveT
import Derived.Test.YtdjlchbgdehccaaWbad
import Derived.Test.YtdjlchbgdehccaaBase
import Derived.Test.YtdjlchbgdehccaaConv
namespace Go.Proofs.Ytdjlchbgdehccaa.treeManyDone
open Go.ChangeShapes Go.WideShapes Go.ChangeAt Go.RowKit Go.Deep

theorem Try.nodeT : ElemT Try.prog 23 29 3 32 := ElemT.mk' (z := .agg #[.string ByteArray.empty, .int .i64 0, .int .i64 0]) Try.underlying23 (by kernel_rfl) rfl (by omega)
/-- The name of a number. -/
def dB (i : Nat) : ByteArray := ⟨#[100, UInt8.ofNat (48 + i / 100), UInt8.ofNat (48 + i / 10 % 10), UInt8.ofNat (48 + i % 10)]⟩
theorem dB_size (i : Nat) : (dB i).size = 4 := rfl
def dN (i : Nat) : Node := ⟨dB i, -1, 493, by rw [dB_size]; decide⟩
def upTo (n : Nat) : List Node := (List.range n).map dN
theorem upTo_succ (n : Nat) : upTo (n + 1) = upTo n ++ [dN n] := by simp [upTo, List.range_succ]
theorem upTo_length (n : Nat) : (upTo n).length = n := by simp [upTo]
theorem leS_eq (a b : ByteArray) : leS a b = (Op.bytesLess a.data.toList b.data.toList || a.data.toList == b.data.toList) := by rw [leS, ByteArray.toList_eq, ByteArray.toList_eq]
theorem d_valid : ∀ k < 271, validL (dB k).data.toList = true := by decide +kernel
theorem d_parent : ∀ k < 271, (parentB (dB k)).data.toList = [] := by decide +kernel
theorem d_le : ∀ k < 271, leS (dB (k + 1)) (dB k) = false := by simp only [leS_eq]; decide +kernel
theorem d_le0 : leS (dB 0) ByteArray.empty = false := by simp only [leS_eq]; decide +kernel
def undB (l : List UInt8) : Nat := ((l.getD 1 0).toNat - 48) * 100 + ((l.getD 2 0).toNat - 48) * 10 + ((l.getD 3 0).toNat - 48)
theorem d_un : ∀ k < 271, undB (dB k).data.toList = k := by decide +kernel
theorem d_inj {i j : Nat} (hi : i < 271) (hj : j < 271) (h : (dB i).data.toList = (dB j).data.toList) : i = j := by rw [← d_un i hi, ← d_un j hj, h]
theorem d_step {k : Nat} (hk : k < 271) {f : List UInt8 → Int} (hf : f [] = 1) {last : ByteArray} (hl : leS (dB k) last = false) (t : List Node) :
    ∃ g : List UInt8 → Int, g [] = 1 ∧ looseRun (dN k :: t) f 0 last = looseRun t g 0 (dB k) := by
  refine ⟨fun q => if q = (dN k).path.data.toList then 1 else if q = (dN k).path.data.toList then 2 else f q, ?_, ?_⟩
  · show (if [] = (dN k).path.data.toList then (1 : Int) else if [] = (dN k).path.data.toList then 2 else f []) = 1
    rw [hf]; split <;> simp_all
  · have hb : badNode (dN k) f 0 last = false := by
      simp only [badNode, show (dN k).path = dB k from rfl, show (dN k).file = -1 from rfl, d_valid k hk, hl, d_parent k hk, hf]
      rfl
    rw [looseRun, if_neg (by rw [hb]; simp), if_pos (show (dN k).file = -1 from rfl), if_pos (show okMode (dN k).mode = true from rfl)]
    rfl
theorem d_run : ∀ (m k : Nat), k + m ≤ 271 → ∀ (f : List UInt8 → Int) (last : ByteArray), f [] = 1 → leS (dB k) last = false → looseRun ((List.range' k m).map dN) f 0 last = some 0
  | 0, _, _, _, _, _, _ => rfl
  | m + 1, k, h, f, last, hf, hl => by
    obtain ⟨g, hg, e⟩ := d_step (by omega : k < 271) hf hl ((List.range' (k + 1) m).map dN)
    rw [List.range'_succ, List.map_cons, e]
    exact d_run m (k + 1) (by omega) g _ hg (d_le k (by omega))
def tv (A : Option Addr) (n c : Nat) : TV := ⟨upTo n, [], A, n, c, none, 0, 0⟩
theorem tv_loose {A : Option Addr} {n c : Nat} (hn : n ≤ 256) : looseE (tv A n c) = 0 := by
  have h1 : boundB (tv A n c) = false := by
    show (decide (256 < n) || decide (256 < 0) || false) = false
    rw [decide_eq_false (by omega)]; rfl
  have h2 : looseRun (tv A n c).nodes k0 0 ByteArray.empty = some 0 := by
    show looseRun (upTo n) k0 0 ByteArray.empty = some 0
    rw [upTo, List.range_eq_range']
    exact d_run n 0 (by omega) _ _ rfl d_le0
  rw [looseE, h1, h2]
  rfl
theorem tv_long {A : Option Addr} {n c : Nat} (hn : 256 < n) : looseE (tv A n c) = 31 := by
  rw [looseE, if_pos (by simp [boundB, tv, hn])]
theorem d_kept : ∀ k < 271, keptB (dB k) = false := by decide +kernel
theorem tv_kept {A : Option Addr} {n c : Nat} (hn : n ≤ 270) : anyKept (tv A n c).nodes = false := by
  rw [anyKept, List.any_eq_false]
  intro x hx
  obtain ⟨i, hi, rfl⟩ := List.mem_map.1 (show x ∈ upTo n from hx)
  have := List.mem_range.1 hi
  show ¬ keptB (dB i) = true
  rw [d_kept i (by omega)]; simp
theorem tv_check {A : Option Addr} {n c : Nat} (hn : n ≤ 270) : checkE (tv A n c) = if 128 < n then 31 else 0 := by
  unfold checkE
  rw [tv_kept hn]
  show (if 128 < n then (31 : Int) else _) = _
  by_cases h : 128 < n
  · rw [if_pos h, if_pos h]
  · rw [if_neg h, if_neg h, tv_loose (by omega)]; rfl
theorem d_kids (n : Nat) (hn : n ≤ 271) (k : List UInt8) : kidsN (upTo n) k = if k = [] then n else 0 := by
  have h : (upTo n).map parK = List.replicate n [] := by
    rw [List.eq_replicate_iff]
    refine ⟨by simp [upTo], fun b hb => ?_⟩
    obtain ⟨x, hx, rfl⟩ := List.mem_map.1 hb
    obtain ⟨i, hi, rfl⟩ := List.mem_map.1 (show x ∈ upTo n from hx)
    have := List.mem_range.1 hi
    exact d_parent i (by omega)
  rw [kidsN, h, List.count_replicate]
  by_cases e : k = []
  · simp [e]
  · have : ([] == k) = false := by
      cases k with
      | nil => exact absurd rfl e
      | cons => rfl
    simp [this, e]
theorem d_keys : ∀ n, n ≤ 271 → keysOf (upTo n) = [] :: (List.range n).map fun i => (dB i).data.toList
  | 0, _ => rfl
  | n + 1, h => by
    rw [upTo_succ, keysOf_snoc, d_keys n (by omega), keysStep, if_pos (show (dN n).file = -1 from rfl)]
    have h1 : addKey ([] :: (List.range n).map fun i => (dB i).data.toList) (parK (dN n)) = [] :: (List.range n).map fun i => (dB i).data.toList := by
      have : parK (dN n) = [] := d_parent n (by omega)
      rw [this, addKey, if_pos (List.mem_cons_self ..)]
    rw [h1, addKey, if_neg ?_, List.range_succ, List.map_append]
    · rfl
    · intro hm
      rcases List.mem_cons.1 hm with e | hm
      · cases e
      · obtain ⟨i, hi, e⟩ := List.mem_map.1 hm
        have := List.mem_range.1 hi
        have := d_inj (by omega) (by omega) e
        omega
theorem tv_L {A : Option Addr} {n c : Nat} (hn : n ≤ 270) : weightL (keysOf (tv A n c).nodes) (kidsN (tv A n c).nodes) (tv A n c).files = (dirW n, 1) :: List.replicate n (1, 1) := by
  show weightL (keysOf (upTo n)) (kidsN (upTo n)) [] = _
  rw [weightL, d_keys n (by omega), List.map_nil, List.append_nil, List.map_cons]
  congr 1
  · rw [dirT, d_kids n (by omega), if_pos rfl]
  · rw [List.eq_replicate_iff]
    refine ⟨by simp, fun b hb => ?_⟩
    obtain ⟨x, hx, rfl⟩ := List.mem_map.1 hb
    obtain ⟨i, hi, rfl⟩ := List.mem_map.1 hx
    rw [dirT, d_kids n (by omega), if_neg (by intro e; cases e)]
    rfl
theorem tv_s1 {A : Option Addr} {n c : Nat} (hn : n ≤ 270) : s1 (weightL (keysOf (tv A n c).nodes) (kidsN (tv A n c).nodes) (tv A n c).files) = dirW n + n := by rw [tv_L hn]; simp [s1]
theorem tv_s2 {A : Option Addr} {n c : Nat} (hn : n ≤ 270) : s2 (weightL (keysOf (tv A n c).nodes) (kidsN (tv A n c).nodes) (tv A n c).files) = n + 1 := by rw [tv_L hn]; simp [s2]; omega
theorem dirW_le {n : Nat} (hn : n ≤ 270) : dirW n ≤ 17 := by unfold dirW; omega
theorem tv_small {A : Option Addr} {n c : Nat} (hn : n ≤ 270) : SmallSum (weightL (keysOf (tv A n c).nodes) (kidsN (tv A n c).nodes) (tv A n c).files) := by
  have h1 := dirW_le hn
  refine ⟨?_, by rw [tv_s1 hn]; omega, by rw [tv_s2 hn]; omega⟩
  rw [tv_L hn]
  intro x hx
  rcases List.mem_cons.1 hx with rfl | hx
  · simp; omega
  · rw [List.eq_of_mem_replicate hx]; simp
theorem d_str (k : Nat) : strOfNums [100, 48 + (k : Int) / 100, 48 + (k : Int) / 10 % 10, 48 + (k : Int) % 10] = dB k := by
  have e1 : (48 + (k : Int) / 100).toNat = 48 + k / 100 := by omega
  have e2 : (48 + (k : Int) / 10 % 10).toNat = 48 + k / 10 % 10 := by omega
  have e3 : (48 + (k : Int) % 10).toNat = 48 + k % 10 := by omega
  simp only [strOfNums, List.map_cons, List.map_nil, e1, e2, e3]
  rfl
theorem dN_one (k : Nat) : ∀ u ∈ (#[.string (dB k), .int .i64 (-1), .int .i64 493] : Array Value).toList, u.oneCell' = true := by
  intro u hu
  simp only [List.mem_cons, List.not_mem_nil, or_false] at hu
  rcases hu with rfl | rfl | rfl <;> rfl
theorem num_same' (a : Nat) {x : Int} (ha : a < 4294967296) (h : x = (a : Int)) : (FloatKind.f64.format.order (N a) (floatOfInt .f64 x) == some .eq) = true := by subst h; exact N_eq a ha
theorem fin {a b : Nat} {x y : Int} (ha : a < 4294967296) (hb : b < 4294967296) (hx : x = (a : Int)) (hy : y = (b : Int)) :
    Ending.returned (.bool ((FloatKind.f64.format.order (N a) (floatOfInt .f64 x) == some .eq) && (FloatKind.f64.format.order (N b) (floatOfInt .f64 y) == some .eq))) = .returned (.bool true) := by
  rw [num_same' a ha hx, num_same' b hb hy]; rfl
def MAt (base tb : Nat) (w wr : World) (k : Nat) : Prop :=
  ∃ A c, Blk wr tb 26 #[.slice A k c, .slice none 0 0] ∧ wr.ownsRow base 29 3 (.slice A k c) k ((upTo k).flatMap Node.list) ∧ base ≤ wr.heap.size ∧ Below w.heap.size w wr
set_option maxRecDepth 100000 in
set_option maxHeartbeats 4000000 in
theorem walk (n : Int) (w : World) (_ : (Lit.int .i64 n).wf = true) : Calls Try.prog 3 #[.int .i64 n] w fun e w' => e = .returned (.bool true) ∧ Below w.heap.size w w' := by
  by_cases h1 : n < 0
  · go_enter Try.func3, Try.ntmps3
    go_wp2_with (go_at_call 14; refine (alive_t _).mono ?_; rintro e w1 ⟨rfl, hb1⟩)
    go_ret
    exact ⟨rfl, hb1⟩
  · by_cases h2 : 270 < n
    · go_enter Try.func3, Try.ntmps3
      go_wp2_with (go_at_call 14; refine (alive_t _).mono ?_; rintro e w1 ⟨rfl, hb1⟩)
      go_ret
      exact ⟨rfl, hb1⟩
    · obtain ⟨n, rfl⟩ := Int.eq_ofNat_of_zero_le (show 0 ≤ n by omega)
      have hn : n ≤ 270 := by omega
      go_enter Try.func3, Try.ntmps3
      go_upto_block 1 with (go_at_call 14; refine (alive_t _).mono ?_; rintro e w1 ⟨rfl, hb1⟩)
      have hs1 := hb1.size
      go_wp2
      go_loopw [5] (fun i wr => ∃ k : Nat, k ≤ n ∧ i = .int .i64 k ∧ MAt (w1.heap.size + 1) w1.heap.size w wr k) (fun i _ => n - (intOf i).toNat)
      case atStart => exact ⟨0, Nat.zero_le _, rfl, none, 0, Blk.new _ _ _, World.ownsRow_nil _ _ _ _, by simp, hb1.alloc hs1 _⟩
      case round =>
        obtain ⟨k, hk, rfl, A, c, hT, ho, hbs, hb⟩ := hrel
        have t0 := hT.cell 0
        have t0f := hT.frozen 0
        by_cases hlt : k < n
        · have hki : (k : Int) < n := by omega
          have kc := conv_new [100, 48 + (k : Int) / 100, 48 + (k : Int) / 10 % 10, 48 + (k : Int) % 10] wr (n := 4) rfl
          rw [d_str] at kc
          simp only [List.map_cons, List.map_nil] at kc
          have hks := Lib.hid (upTo_succ k)
          have hba := hb.alloc (by have := hb.size; omega) (.cells #[.int .u8 100, .int .u8 (48 + (k : Int) / 100), .int .u8 (48 + (k : Int) / 10 % 10), .int .u8 (48 + (k : Int) % 10)] 5)
          have hwr := hb.size
          go_wp2_with (at_builtin; go_must (refine wpList_append_one rfl _ _ _ rfl Try.nodeT rfl (ho.alloc _) #[.string (dB k), .int .i64 (-1), .int .i64 493] rfl (by simp) rfl (dN_one k) (by unfold maxLen; omega) (by omega) (by simp; omega) ?_); intro g1 c1 w4 ho4 hg4 hat4; simp only [Act.put, List.setIfInBounds_toArray, List.set_cons_zero, List.set_cons_succ]; have hT4 := (hT.alloc (.cells #[.int .u8 100, .int .u8 (48 + (k : Int) / 100), .int .u8 (48 + (k : Int) / 10 % 10), .int .u8 (48 + (k : Int) % 10)] 5)).grown hg4 (ne_blk ho (by omega)); have q0 := hT4.cell 0; have q0f := hT4.frozen 0)
          have hs4 := hg4.size
          simp only [World.size_alloc] at hs4
          go_roundw
          case rel => exact ⟨k + 1, by omega, by go_num, some ⟨g1, 0, none⟩, c1, hT4.set 0 _, by rw [hks.out, List.flatMap_append]; exact own_set ho4 ⟨w1.heap.size, 0, none⟩ _ (Nat.lt_succ_self _), by simp [World.setCell]; omega, (hba.trans (below_grown hg4 (by simp; omega) (fun g e => by have := own_blk' ho g e; omega))).setCell (p := ⟨w1.heap.size, 0, none⟩) hs1 _⟩
          case measure => simp [intOf]; omega
        · obtain rfl : k = n := by omega
          have hTA : TreeAt wr (tv A k c) := ⟨upTo_length k, rfl, Sl.of_own ho, Sl.nil _ _ _ _, by show k ≤ _; omega, by show 0 ≤ _; omega⟩
          have HT := Lib.hid hTA
          have t1 := hT.cell 1
          have HC := Lib.hid (tv_check (A := A) (c := c) hn)
          clear hTA ho t0f
          by_cases h256 : 256 < k
          · have hi : (256 : Int) < k := by omega
            have HL := Lib.hid (tv_long (A := A) (c := c) h256)
            replace HC := Lib.hid (HC.out.trans (if_pos (by omega)))
            go_wp2_with (first | (go_at_call 15; refine (check_any (tv A k c) _ HT.out).mono ?_; rintro e w3 ⟨rfl, hb3⟩; rw [HC.out]; have hT3 := hT.below hb3 hT.lt; have q0 := hT3.cell 0; have q1 := hT3.cell 1) | (go_at_call 16; refine (loose_any (tv A k c) _ (HT.out.keep hb3)).mono ?_; rintro e w4 ⟨rfl, hb4⟩; rw [HL.out]; have hT4 := hT3.below hb4 hT3.lt; have r0 := hT4.cell 0; have r1 := hT4.cell 1) | (go_at_call 17; refine (weight_bad (tv A k c) _ ((HT.out.keep hb3).keep hb4) (by rw [HL.out]; decide)).mono ?_; rintro e w5 ⟨rfl, hb5⟩; rw [HL.out]) | (go_at_call 18; refine (numT _ _).mono ?_; rintro e w6 ⟨rfl, rfl⟩))
            go_ret
            exact ⟨rfl, ((hb.trans (hb3.mono hb.size)).trans (hb4.mono (Nat.le_trans hb.size hb3.size))).trans (hb5.mono (Nat.le_trans (Nat.le_trans hb.size hb3.size) hb4.size))⟩
          · have hi : ¬ (256 : Int) < k := by omega
            have HL := Lib.hid (tv_loose (A := A) (c := c) (by omega : k ≤ 256))
            have HS := Lib.hid (tv_small (A := A) (c := c) hn)
            have E1 := Lib.hid (tv_s1 (A := A) (c := c) hn)
            have E2 := Lib.hid (tv_s2 (A := A) (c := c) hn)
            have hd17 := dirW_le hn
            by_cases h0 : (k + 15) / 16 = 0
            · have hr : (((k : Int) + 15) / 16 == 0) = true := by simp; omega
              have HD := Lib.hid (show dirW k = 1 by unfold dirW; omega)
              have h128 : ¬ (128 : Int) < k := by omega
              have h128' : (k : Int) ≤ 128 := by omega
              replace HC := Lib.hid (HC.out.trans (if_neg (by omega)))
              replace h0 := Lib.hid h0
              go_wp2_with (first | (go_at_call 15; refine (check_any (tv A k c) _ HT.out).mono ?_; rintro e w3 ⟨rfl, hb3⟩; rw [HC.out]; have hT3 := hT.below hb3 hT.lt; have q0 := hT3.cell 0; have q1 := hT3.cell 1) | (go_at_call 16; refine (loose_any (tv A k c) _ (HT.out.keep hb3)).mono ?_; rintro e w4 ⟨rfl, hb4⟩; rw [HL.out]; have hT4 := hT3.below hb4 hT3.lt; have r0 := hT4.cell 0; have r1 := hT4.cell 1) | (go_at_call 17; refine (weight_ok (tv A k c) _ ((HT.out.keep hb3).keep hb4) HL.out HS.out).mono ?_; rintro e w5 ⟨rfl, hb5⟩; rw [E1.out, E2.out]) | (go_at_call 18; refine (numT _ _).mono ?_; rintro e w6 ⟨rfl, rfl⟩))
              go_ret
              exact ⟨fin (by omega) (by omega) (by have := HD.out; omega) (by omega), ((hb.trans (hb3.mono hb.size)).trans (hb4.mono (Nat.le_trans hb.size hb3.size))).trans (hb5.mono (Nat.le_trans (Nat.le_trans hb.size hb3.size) hb4.size))⟩
            · have hr : (((k : Int) + 15) / 16 == 0) = false := by simp; omega
              have HD := Lib.hid (show (dirW k : Int) = ((k : Int) + 15) / 16 by unfold dirW; omega)
              replace h0 := Lib.hid h0
              by_cases h1 : 128 < k
              · have h128 : (128 : Int) < k := by omega
                have h128' : ¬ (k : Int) ≤ 128 := by omega
                replace HC := Lib.hid (HC.out.trans (if_pos (by omega)))
                go_wp2_with (first | (go_at_call 15; refine (check_any (tv A k c) _ HT.out).mono ?_; rintro e w3 ⟨rfl, hb3⟩; rw [HC.out]; have hT3 := hT.below hb3 hT.lt; have q0 := hT3.cell 0; have q1 := hT3.cell 1) | (go_at_call 16; refine (loose_any (tv A k c) _ (HT.out.keep hb3)).mono ?_; rintro e w4 ⟨rfl, hb4⟩; rw [HL.out]; have hT4 := hT3.below hb4 hT3.lt; have r0 := hT4.cell 0; have r1 := hT4.cell 1) | (go_at_call 17; refine (weight_ok (tv A k c) _ ((HT.out.keep hb3).keep hb4) HL.out HS.out).mono ?_; rintro e w5 ⟨rfl, hb5⟩; rw [E1.out, E2.out]) | (go_at_call 18; refine (numT _ _).mono ?_; rintro e w6 ⟨rfl, rfl⟩))
                go_ret
                exact ⟨fin (by omega) (by omega) (by have := HD.out; omega) (by omega), ((hb.trans (hb3.mono hb.size)).trans (hb4.mono (Nat.le_trans hb.size hb3.size))).trans (hb5.mono (Nat.le_trans (Nat.le_trans hb.size hb3.size) hb4.size))⟩
              · have h128 : ¬ (128 : Int) < k := by omega
                have h128' : (k : Int) ≤ 128 := by omega
                replace HC := Lib.hid (HC.out.trans (if_neg (by omega)))
                go_wp2_with (first | (go_at_call 15; refine (check_any (tv A k c) _ HT.out).mono ?_; rintro e w3 ⟨rfl, hb3⟩; rw [HC.out]; have hT3 := hT.below hb3 hT.lt; have q0 := hT3.cell 0; have q1 := hT3.cell 1) | (go_at_call 16; refine (loose_any (tv A k c) _ (HT.out.keep hb3)).mono ?_; rintro e w4 ⟨rfl, hb4⟩; rw [HL.out]; have hT4 := hT3.below hb4 hT3.lt; have r0 := hT4.cell 0; have r1 := hT4.cell 1) | (go_at_call 17; refine (weight_ok (tv A k c) _ ((HT.out.keep hb3).keep hb4) HL.out HS.out).mono ?_; rintro e w5 ⟨rfl, hb5⟩; rw [E1.out, E2.out]) | (go_at_call 18; refine (numT _ _).mono ?_; rintro e w6 ⟨rfl, rfl⟩))
                go_ret
                exact ⟨fin (by omega) (by omega) (by have := HD.out; omega) (by omega), ((hb.trans (hb3.mono hb.size)).trans (hb4.mono (Nat.le_trans hb.size hb3.size))).trans (hb5.mono (Nat.le_trans (Nat.le_trans hb.size hb3.size) hb4.size))⟩


set_option maxRecDepth 100000 in
theorem lifted (os : Os) (started : os.Started) (H : Type) (enc : TypeId × Value → H) :
    ReturnsInHanded {} Try.checked os 3 .any (Rows.treeManySpec.pre6 enc Try.prog Try.f3 Rows.treeManyRow.domain false) (Rows.treeManySpec.post enc Try.prog Try.f3 false true false false) := by
  refine returnsInHanded_of_change (C := Try.checked) own started (by kernel_rfl) Try.func3
    (ChangeSpec.witness6 (enc := enc) (C := Try.checked) false ⟨#[], #[.int .i64 0], []⟩ 8 (by kernel_rfl) (by kernel_rfl) (by kernel_rfl) (by kernel_rfl)) ?_
  intro W base args ds gs before hval0 hW hcnd _
  have hval : ∀ (j : Nat) t v, Try.f3.params[j]? = some t → args[j]? = some v → Value.okWide Try.prog W .any base t v := hval0
  have hW' := hW
  obtain ⟨p, q, hA0, hV, rfl, hfz, hnd⟩ := hW
  have hA : DataW.TrodAll enc Try.prog W 0 (fun _ => true) true Try.f3.params.toList args.toList ds p := hA0
  rw [Try.params3] at hA hval
  obtain ⟨v0, vs0, d0, ds0, p0, q0, hargs, rfl, rfl, h0, r0⟩ := trodAll_cons hA
  obtain ⟨rfl, rfl, rfl⟩ := trodAll_nil r0
  obtain rfl : args = #[v0] := by cases args; simp_all
  obtain ⟨rfl, rfl⟩ := trodVars_none hV
  obtain ⟨a0, rfl, rfl, rfl, w0⟩ := open_int Try.underlying3 (hval 0 3 v0 rfl rfl) h0
  clear hA0 hval0
  refine (walk a0 W w0).mono fun e W' ⟨he, bel⟩ => ?_
  subst he
  exact ⟨_, rfl, _, _, _, [], _, [], hW', trodAll_mk1 (shut_bool Try.underlying4 _), (trodAll_cons_mk (shut_int Try.underlying3 w0) trodAll_mk0), rfl, bel.frame _, fun h => by cases h⟩

theorem over : Rows.treeManyRow.holds Try.pinned (OpenSpec.ofChange Rows.treeManySpec) :=
  OpenClaim.holds_of_wide 3 Try.f3 rfl rfl rfl rfl rfl rfl rfl ⟨rfl, rfl, rfl, rfl, rfl⟩ rfl rfl rfl rfl rfl (by kernel_rfl) Try.func3 (by kernel_rfl)
    (of_decide_eq_true (by kernel_rfl)) (by unfold Func.isWrapper; first | (rw [if_pos (by decide +kernel)]; kernel_rfl) | (rw [if_neg (by decide +kernel)]; exact ⟨rfl, rfl⟩))
    (fun os started H enc _ => lifted os started H enc)

theorem proved : Rows.TreeManySaid := over
#print axioms proved
end Go.Proofs.Ytdjlchbgdehccaa.treeManyDone
