/- pack.reader: next, number, ins. -/
import Derived.Test.YtgeiegjpnnbloaaDoorEncode
namespace Go.Proofs.YtgeiegjpnnbloaaDoor
open Go.ChangeShapes Go.WideShapes Go.ChangeAt Go.ChangeMaps Go.RowKit Go.Deep

def restA (A : Option Addr) (c k : Nat) : Option Addr := if c = k then A else A.map fun a => a.add k
theorem Sl.rest1 {w : World} {B n c : Nat} {A : Option Addr} {L : List Value} (h : Sl w B 1 A n L) {k : Nat} (hk : k ≤ n) (hnc : n ≤ c) : Sl w B 1 (restA A c k) (n - k) (L.drop k) := by
  refine ⟨by rw [List.length_drop, h.1]; omega, fun h0 => ?_⟩
  obtain ⟨b, o, rfl, hb, hr⟩ := h.2 (by omega)
  unfold restA
  rw [if_neg (by omega)]
  exact ⟨b, o + k, by simp [add_at], hb, hr.drop _⟩
theorem u8_drop (l : List UInt8) (k : Nat) : (l.flatMap u8L).drop k = (l.drop k).flatMap u8L := by rw [← map_u8, ← map_u8, List.map_drop]
theorem u8_take (l : List UInt8) (k : Nat) : (l.flatMap u8L).take k = (l.take k).flatMap u8L := by rw [← map_u8, ← map_u8, List.map_take]
theorem Blk.unfr {w : World} {g : Nat} {t : TypeId} {cs : Array Value} (h : Blk w g t cs) (i : Nat) : w.frozen? ⟨g, i, none⟩ = false := by
  unfold Blk at h
  simp [World.frozen?, h]
theorem grown_put (w : World) (g i : Nat) (v : Value) : w.grownBy (w.setCell ⟨g, i, none⟩ v) (some g) :=
  ⟨rfl, rfl, rfl, by simp, fun q _ hq => heap_setCell_other w ⟨g, i, none⟩ q v (fun e => hq (by rw [e]))⟩
theorem Sl.grown {w w' : World} {B sz n g : Nat} {A : Option Addr} {L : List Value} (h : Sl w B sz A n L) (hg : w.grownBy w' (some g)) (hB : B ≤ g) (hg2 : g < w.heap.size) : Sl w' B sz A n L :=
  h.below (below_grown (B := B) hg (by omega) (fun q e => by injection e with e; omega)) (Nat.le_refl _)
/-- A reader that has not come short: what is left. -/
structure RdAt (w : World) (g B : Nat) (A : Option Addr) (n c : Nat) (l : List UInt8) : Prop where
  blk : Blk w g 64 #[.slice A n c, .bool false]
  sl : Sl w B 1 A n (l.flatMap u8L)
  len : l.length = n
  nc : n ≤ c
  cm : c ≤ maxLen
  Bg : B ≤ g
set_option maxRecDepth 100000 in
set_option maxHeartbeats 4000000 in
theorem next_ok (g B : Nat) (A : Option Addr) (n c : Nat) (l : List UInt8) (k : Nat) (w : World) (h : RdAt w g B A n c l) (hk : k ≤ n) :
    Calls Tryd.prog 23 #[.pointer (some ⟨g, 0, none⟩), .int .i64 k] w fun e w' => e = .returned (.slice A k k) ∧ RdAt w' g B (restA A c k) (n - k) (c - k) (l.drop k) ∧ w.grownBy w' (some g) := by
  have hB := h.blk
  have b0 := hB.cell 0; have b1 := hB.cell 1
  have hl := hB.lt
  have H := Lib.hid h
  have hnc := h.nc; have hcm := h.cm
  unfold maxLen at hcm
  have hki : ¬ (n : Int) < k := by omega
  have hk0 : (0 : Int) ≤ k := by omega
  clear h
  have hfr := hB.unfr 0
  by_cases hc : c = k
  · obtain rfl : n = k := by omega
    obtain rfl : n = c := by omega
    go_enter Tryd.func23, Tryd.ntmps23
    go_wp2
    go_ret
    have hg := grown_put w g 0 (.slice A 0 0)
    refine ⟨rfl, ⟨?_, ?_, ?_, ?_, ?_, H.out.Bg⟩, hg⟩
    · have := hB.set 0 (.slice A 0 0)
      unfold restA
      rw [if_pos rfl]
      exact this
    · have := (H.out.sl.rest1 hk hnc).grown hg H.out.Bg hl
      rw [u8_drop, Nat.sub_self] at this
      exact this
    · simp [List.length_drop, H.out.len]
    · omega
    · unfold maxLen; omega
  · have hck : k < c := by omega
    have hcki : (k : Int) < c := by omega
    go_enter Tryd.func23, Tryd.ntmps23
    go_wp2
    go_ret
    have hg := grown_put w g 0 (.slice (A.map fun x => x.add k) (n - k) (c - k))
    refine ⟨rfl, ⟨?_, ?_, ?_, ?_, ?_, H.out.Bg⟩, hg⟩
    · have := hB.set 0 (.slice (A.map fun x => x.add k) (n - k) (c - k))
      unfold restA
      rw [if_neg hc]
      exact this
    · have := (H.out.sl.rest1 hk hnc).grown hg H.out.Bg hl
      rw [u8_drop] at this
      exact this
    · rw [List.length_drop, H.out.len]
    · omega
    · unfold maxLen; omega
/-- A number of bytes, the lowest first. -/
def deN : List UInt8 → Nat
  | [] => 0
  | x :: l => x.toNat + 256 * deN l
theorem deN_snoc : ∀ (l : List UInt8) (x : UInt8), deN (l ++ [x]) = deN l + x.toNat * 256 ^ l.length
  | [], x => by simp [deN]
  | y :: l, x => by
    rw [List.cons_append, deN, deN_snoc l x, deN, List.length_cons, Nat.pow_succ]
    have : 256 * (x.toNat * 256 ^ l.length) = x.toNat * (256 ^ l.length * 256) := by rw [Nat.mul_left_comm, Nat.mul_comm 256]
    rw [Nat.mul_add, this]
    omega
theorem deN_lt : ∀ l : List UInt8, deN l < 256 ^ l.length
  | [] => by simp [deN]
  | x :: l => by
    have h1 := deN_lt l
    have h2 := x.toNat_lt
    rw [deN, List.length_cons, Nat.pow_succ]
    omega
/-- What is put behind by '|='. -/
theorem or_put (a x j : Nat) (ha : a < 2 ^ (8 * j)) (hx : x < 256) (hj : j < 4) : Go.bits .or .i64 (a : Int) ((x : Int) * 2 ^ (8 * j)) = (a + x * 256 ^ j : Nat) := by
  have h2 : (2 : Nat) ^ (8 * j) = 256 ^ j := by rw [Nat.pow_mul]
  have hm : (256 : Nat) ^ j ≤ 256 ^ 3 := Nat.pow_le_pow_right (by omega) (by omega)
  obtain ⟨q, hq⟩ : ∃ q, (256 : Nat) ^ j = q := ⟨_, rfl⟩
  have hxq : x * q ≤ 255 * 256 ^ 3 := by
    have := Nat.mul_le_mul (show x ≤ 255 by omega) hm
    rw [hq] at this
    exact this
  have hor : a ||| x * q = a + x * q := by
    have := Nat.two_pow_add_eq_or_of_lt (i := 8 * j) (b := a) ha x
    rw [h2, hq] at this
    rw [Nat.or_comm, Nat.mul_comm x q, ← this, Nat.add_comm]
  rw [h2, hq] at ha
  rw [hq] at hm
  have hi : ((x : Int) * 2 ^ (8 * j)) = ((x * q : Nat) : Int) := by
    rw [← hq, ← h2]
    push_cast
    rfl
  rw [hi, hq]
  obtain ⟨y, hy⟩ : ∃ y, x * q = y := ⟨_, rfl⟩
  rw [hy] at hxq hor ⊢
  have e1 : (BitVec.ofInt 64 (a : Int)).toNat = a := by rw [BitVec.toNat_ofInt]; omega
  have e2 : (BitVec.ofInt 64 (y : Int)).toNat = y := by rw [BitVec.toNat_ofInt]; omega
  show IntKind.i64.wrap ((BitVec.ofInt 64 (a : Int) ||| BitVec.ofInt 64 (y : Int)).toNat : Nat) = _
  rw [BitVec.toNat_or, e1, e2, hor, IntKind.wrap_i64]
  omega
theorem wrap_put (x j : Nat) (hx : x < 256) (hj : j < 4) : wrap64 ((x : Int) * 2 ^ (8 * j)) = (x : Int) * 2 ^ (8 * j) := by
  have h : j = 0 ∨ j = 1 ∨ j = 2 ∨ j = 3 := by omega
  rcases h with rfl | rfl | rfl | rfl
  · rw [show (2 : Int) ^ (8 * 0) = 1 from by decide]; unfold wrap64; omega
  · rw [show (2 : Int) ^ (8 * 1) = 256 from by decide]; unfold wrap64; omega
  · rw [show (2 : Int) ^ (8 * 2) = 65536 from by decide]; unfold wrap64; omega
  · rw [show (2 : Int) ^ (8 * 3) = 16777216 from by decide]; unfold wrap64; omega
set_option maxRecDepth 100000 in
set_option maxHeartbeats 4000000 in
theorem number_ok (g B : Nat) (A : Option Addr) (n c : Nat) (l : List UInt8) (k : Nat) (w : World) (h : RdAt w g B A n c l) (hk : k ≤ n) (hk4 : k ≤ 4) :
    Calls Tryd.prog 22 #[.pointer (some ⟨g, 0, none⟩), .int .i64 k] w fun e w' => e = .returned (.int .i64 (deN (l.take k) : Nat)) ∧ RdAt w' g B (restA A c k) (n - k) (c - k) (l.drop k) ∧ w.grownBy w' (some g) := by
  have HN := Lib.hid (next_ok g B A n c l k w h hk)
  have H := Lib.hid h
  have hgl := h.blk.lt
  clear h
  go_enter Tryd.func22, Tryd.ntmps22
  go_wp2_with (go_at_call 23; refine HN.out.mono ?_; rintro e w1 ⟨rfl, hr1, hg1⟩)
  have hS := (H.out.sl.first hk).grown hg1 H.out.Bg hgl
  rw [Nat.mul_one, u8_take] at hS
  have HR1 := Lib.hid hr1; have HG1 := Lib.hid hg1
  go_loopw [5, 12] (fun v i wr => ∃ j : Nat, j ≤ k ∧ i = .int .i64 j ∧ v = .int .i64 (deN (l.take j) : Nat) ∧ wr = w1) (fun _ i _ => k - (intOf i).toNat)
  case atStart => exact ⟨0, Nat.zero_le _, rfl, rfl, rfl⟩
  case round =>
  obtain ⟨j, hj, rfl, rfl, rfl⟩ := hrel
  by_cases hlt : j < k
  · have hji : (j : Int) < k := by omega
    obtain ⟨tb, to', x, rfl, htb, hx, hcx⟩ := hS.get (f := u8L) (fun _ => rfl) (xs := l.take k) (by rw [List.length_take, H.out.len]; omega) hlt
    have a0 := hcx 0 _ rfl
    simp only [Nat.add_zero, Nat.mul_one] at a0
    have hxl : x.toNat < 256 := x.toNat_lt
    have hnext : deN (l.take (j + 1)) = deN (l.take j) + x.toNat * 256 ^ j := by
      have hjl : j < l.length := by rw [H.out.len]; omega
      have e : l.take (j + 1) = l.take j ++ [x] := by
        rw [List.getElem?_take_of_lt hlt] at hx
        rw [List.take_add_one, hx]; rfl
      rw [e, deN_snoc, List.length_take, Nat.min_eq_left (by omega)]
    have hsm : deN (l.take j) < 2 ^ (8 * j) := by
      have h1 := deN_lt (l.take j)
      rw [List.length_take, Nat.min_eq_left (by rw [H.out.len]; omega)] at h1
      rw [Nat.pow_mul]
      exact h1
    obtain ⟨xn, hxn⟩ : ∃ y, x.toNat = y := ⟨_, rfl⟩
    obtain ⟨a, ha⟩ : ∃ y, deN (l.take j) = y := ⟨_, rfl⟩
    rw [hxn] at a0 hxl hnext
    rw [ha] at hsm hnext ⊢
    have hor := or_put a xn j hsm hxl (by omega)
    rw [← hnext, ← wrap_put xn j hxl (by omega)] at hor
    have hj3 : j ≤ 3 := by omega
    have htl : tb < wr.heap.size := Nat.lt_of_lt_of_le htb (by have := H.out.Bg; have := hg1.size; omega)
    clear hcx hx hxn ha hsm hnext htb hS hr1 hg1
    go_wp2
    go_roundw
    case rel => exact ⟨j + 1, by omega, by go_num, rfl, trivial⟩
    case measure => simp [intOf]; omega
  · obtain rfl : j = k := by omega
    have hji : ¬ (j : Int) < j := by omega
    clear hS hr1 hg1
    go_wp2
    go_ret
    exact ⟨rfl, HR1.out, HG1.out⟩
end Go.Proofs.YtgeiegjpnnbloaaDoor
