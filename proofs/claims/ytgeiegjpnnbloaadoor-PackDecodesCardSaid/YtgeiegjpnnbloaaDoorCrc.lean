/- sum.half, sum.More, sum.CRC: the checksum of bytes. -/
import Derived.Test.YtgeiegjpnnbloaaDoorKit
namespace Go.Proofs.YtgeiegjpnnbloaaDoor
open Go.RowKit

theorem u32_wrap (n : Nat) (h : n < 4294967296) : IntKind.u32.wrap (n : Int) = n := by
  have : IntKind.u32.wrap (n : Int) = (n : Int) % 4294967296 := rfl
  rw [this]; omega
theorem of32 (a : BitVec 32) : BitVec.ofInt 32 (a.toNat : Int) = a := by
  rw [BitVec.ofInt_natCast, BitVec.ofNat_toNat, BitVec.setWidth_eq]
theorem xor32 (a b : BitVec 32) : Go.bits .xor .u32 a.toNat b.toNat = ((a ^^^ b).toNat : Nat) := by
  show IntKind.u32.wrap (((BitVec.ofInt 32 (a.toNat : Int) ^^^ BitVec.ofInt 32 (b.toNat : Int)).toNat : Nat) : Int) = _
  rw [of32, of32]
  exact u32_wrap _ (a ^^^ b).isLt
theorem and32 (a b : BitVec 32) : Go.bits .and .u32 a.toNat b.toNat = ((a &&& b).toNat : Nat) := by
  show IntKind.u32.wrap (((BitVec.ofInt 32 (a.toNat : Int) &&& BitVec.ofInt 32 (b.toNat : Int)).toNat : Nat) : Int) = _
  rw [of32, of32]
  exact u32_wrap _ (a &&& b).isLt
def halfN : List Nat := [0x00000000, 0x1DB71064, 0x3B6E20C8, 0x26D930AC, 0x76DC4190, 0x6B6B51F4, 0x4DB26158, 0x5005713C, 0xEDB88320, 0xF00F9344, 0xD6D6A3E8, 0xCB61B38C, 0x9B64C2B0, 0x86D3D2D4, 0xA00AE278, 0xBDBDF21C]
def halfF (j : Nat) : BitVec 32 := BitVec.ofNat 32 (halfN[j]?.getD 0)
def halfB (c : BitVec 32) : BitVec 32 := halfF (c &&& 15#32).toNat
/-- Words as an array. -/
def arrW (n : Nat) (f : Nat → BitVec 32) : Array Value := Array.ofFn (n := n) fun k => .int .u32 ((f k).toNat : Nat)
theorem arrW_get {n j : Nat} {f : Nat → BitVec 32} (h : j < n) : (arrW n f)[j]? = some (.int .u32 ((f j).toNat : Nat)) := by
  unfold arrW
  rw [Array.getElem?_ofFn, dif_pos h]
theorem low4 (c : BitVec 32) : (c &&& 15#32).toNat < 16 := by
  have : (15#32).toNat = 2 ^ 4 - 1 := by decide
  rw [BitVec.toNat_and, this, Nat.and_two_pow_sub_one_eq_mod]
  omega
set_option maxRecDepth 100000 in
set_option maxHeartbeats 4000000 in
theorem half_any (c : BitVec 32) (w : World) : Calls Tryd.prog 44 #[.int .u32 (c.toNat : Nat)] w fun e w' => e = .returned (.int .u32 ((halfB c).toNat : Nat)) ∧ Below w.heap.size w w' := by
  have h15 := and32 c 15#32
  have hlt := low4 c
  obtain ⟨j, hj⟩ : ∃ j, (c &&& 15#32).toNat = j := ⟨_, rfl⟩
  have hres : halfB c = halfF j := by unfold halfB; rw [hj]
  rw [hj] at h15 hlt
  replace h15 : Go.bits .and .u32 (c.toNat : Int) 15 = j := h15
  rw [hres]
  clear hres hj
  have hji : (j : Int) < 16 := by omega
  go_enter Tryd.func44, Tryd.ntmps44
  go_upto_region 2 with (refine wpList_store_blk rfl 108 (.tmp 3) (.tmp 4) rfl (Blk.new w 108 _) (arrW 16 halfF) rfl (by kernel_rfl) (by kernel_rfl) (by kernel_rfl) (by kernel_rfl) ?_; intro w2 hB2 hg2 hs2)
  have hb : Below w.heap.size w w2 := ((Below.refl _ _).alloc (Nat.le_refl _) _).trans (below_grown hg2 (by simp) (fun g e => by injection e with e; omega))
  have hl := hB2.lt
  have h0 : w2.cell? ⟨w.heap.size, j, none⟩ = some (.int .u32 ((halfF j).toNat : Nat)) := (hB2.cell j).trans (arrW_get hlt)
  go_wp2
  go_ret
  exact ⟨rfl, hb⟩
/-- Bytes as cells. -/
def u8L (x : UInt8) : List Value := [.int .u8 (x.toNat : Nat)]
def wordB (x : UInt8) : BitVec 32 := BitVec.ofNat 32 x.toNat
theorem wordB_nat (x : UInt8) : (wordB x).toNat = x.toNat := by
  unfold wordB
  rw [BitVec.toNat_ofNat]
  have := x.toNat_lt
  omega
def nibB (c : BitVec 32) : BitVec 32 := halfB c ^^^ (c >>> 4)
def crcStep (c : BitVec 32) (x : UInt8) : BitVec 32 := nibB (nibB (c ^^^ wordB x))
def crcF (L : List UInt8) : BitVec 32 := (L.foldl crcStep 4294967295#32) ^^^ 4294967295#32
theorem nib32 (c : BitVec 32) : Go.bits .xor .u32 ((halfB c).toNat : Nat) ((c.toNat : Int) / 16) = ((nibB c).toNat : Nat) := by
  have : ((c.toNat : Int) / (16 : Int)) = (((c >>> 4).toNat : Nat) : Int) := by
    rw [BitVec.toNat_ushiftRight, Nat.shiftRight_eq_div_pow]
    omega
  rw [this, xor32]
  rfl
theorem not32 (c : BitVec 32) : Go.bits .xor .u32 IntKind.u32.max (c.toNat : Nat) = ((c ^^^ 4294967295#32).toNat : Nat) := by
  have : IntKind.u32.max = ((4294967295#32).toNat : Nat) := by rfl
  rw [this, xor32, BitVec.xor_comm]
theorem u32_small (a : BitVec 32) : (a.toNat : Int) % 4294967296 = a.toNat := by have := a.isLt; omega
set_option maxRecDepth 100000 in
set_option maxHeartbeats 4000000 in
theorem more_any (L : List UInt8) (A : Option Addr) (n c : Nat) (w : World) (hA : Sl w w.heap.size 1 A n (L.flatMap u8L)) (hn : L.length = n) (hm : n ≤ maxLen) : Calls Tryd.prog 37 #[.int .i64 0, .slice A n c] w fun e w' => e = .returned (.int .i64 ((crcF L).toNat : Nat)) ∧ Below w.heap.size w w' := by
  have HA := Lib.hid hA; have HN := Lib.hid hn
  clear hA hn
  unfold maxLen at hm
  have hs := (crcF L).isLt
  obtain ⟨z, hz⟩ : ∃ z, (crcF L).toNat = z := ⟨_, rfl⟩
  rw [hz] at hs ⊢
  have HZ := Lib.hid hz
  clear hz
  have h0 : Go.bits .xor .u32 IntKind.u32.max 0 = ((4294967295#32).toNat : Nat) := by rfl
  obtain ⟨c0, hc0⟩ : ∃ c, (4294967295#32) = c := ⟨_, rfl⟩
  rw [hc0] at h0
  go_enter Tryd.func37, Tryd.ntmps37
  go_wp2
  go_loopw [5, 13] (fun v i wr => ∃ k : Nat, k ≤ n ∧ i = .int .i64 k ∧ v = .int .u32 (((L.take k).foldl crcStep 4294967295#32).toNat : Nat) ∧ Below w.heap.size w wr) (fun _ i _ => n - (intOf i).toNat)
  case atStart => exact ⟨0, Nat.zero_le _, rfl, by rw [List.take_zero, List.foldl_nil, hc0], Below.refl _ _⟩
  case round =>
  obtain ⟨k, hk, rfl, rfl, hb⟩ := hrel
  obtain ⟨cc, hcc⟩ : ∃ c, (L.take k).foldl crcStep 4294967295#32 = c := ⟨_, rfl⟩
  rw [hcc]
  have Hb := Lib.hid hb
  by_cases hlt : k < n
  · have hki : (k : Int) < n := by omega
    obtain ⟨b, o, x, rfl, hbl, hx, hc⟩ := (HA.out.below hb (Nat.le_refl _)).get (f := u8L) (fun _ => rfl) HN.out hlt
    have a0 := hc 0 _ rfl
    simp only [Nat.add_zero, Nat.mul_one] at a0
    have hnext : (L.take (k + 1)).foldl crcStep 4294967295#32 = nibB (nibB (cc ^^^ wordB x)) := by rw [List.take_add_one, hx, List.foldl_append, hcc]; rfl
    have hbl' := Nat.lt_of_lt_of_le hbl hb.size
    rw [← wordB_nat x] at a0
    obtain ⟨xb, hxb⟩ : ∃ y, wordB x = y := ⟨_, rfl⟩
    rw [hxb] at a0 hnext
    have e1 := xor32 cc xb
    have e2 := u32_small xb
    obtain ⟨c1, hc1⟩ : ∃ y, cc ^^^ xb = y := ⟨_, rfl⟩
    rw [hc1] at hnext e1
    have e3 := nib32 c1
    obtain ⟨c2, hc2⟩ : ∃ y, nibB c1 = y := ⟨_, rfl⟩
    rw [hc2] at hnext e3
    have e4 := nib32 c2
    obtain ⟨c3, hc3⟩ : ∃ y, nibB c2 = y := ⟨_, rfl⟩
    rw [hc3] at hnext e4
    have HNx := Lib.hid hnext
    have tok : True := trivial
    clear hc hx hb hcc hxb hc1 hc2 hc3 hnext
    go_wp2_with (first | (go_at_call 44; have _t := tok; clear tok _t; refine (half_any c1 _).mono ?_; rintro e w1 ⟨rfl, hb1⟩) | (go_at_call 44; refine (half_any c2 _).mono ?_; rintro e w2 ⟨rfl, hb2⟩))
    go_roundw
    case rel => exact ⟨k + 1, by omega, by go_num, by rw [HNx.out], (Hb.out.trans (hb1.mono Hb.out.size)).trans (hb2.mono (Hb.out.trans (hb1.mono Hb.out.size)).size)⟩
    case measure => simp [intOf]; omega
  · obtain rfl : k = n := by omega
    have hki : ¬ (k : Int) < k := by omega
    have hall : (cc ^^^ 4294967295#32) = crcF L := by
      unfold crcF
      rw [← hcc, List.take_of_length_le (by rw [HN.out]; exact Nat.le_refl _)]
    have e1 := not32 cc
    rw [hall] at e1
    rw [HZ.out] at e1
    clear hb hcc hall
    go_wp2
    go_ret
    exact ⟨rfl, Hb.out⟩
theorem crc_any (L : List UInt8) (A : Option Addr) (n c : Nat) (w : World) (hA : Sl w w.heap.size 1 A n (L.flatMap u8L)) (hn : L.length = n) (hm : n ≤ maxLen) : Calls Tryd.prog 21 #[.slice A n c] w fun e w' => e = .returned (.int .i64 ((crcF L).toNat : Nat)) ∧ Below w.heap.size w w' := by
  have HM := Lib.hid (more_any L A n c w hA hn hm)
  clear hA hn hm
  go_enter Tryd.func21, Tryd.ntmps21
  go_wp2_with (go_at_call 37; refine HM.out.mono ?_; rintro e w1 ⟨rfl, hb1⟩)
  go_ret
  exact ⟨rfl, hb1⟩
end Go.Proofs.YtgeiegjpnnbloaaDoor
