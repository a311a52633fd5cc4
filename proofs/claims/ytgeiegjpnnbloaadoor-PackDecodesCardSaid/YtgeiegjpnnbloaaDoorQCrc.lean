/- shuntref2.CRC: the same checksum, bit by bit. -/
import Derived.Test.YtgeiegjpnnbloaaDoorCrcP
import Derived.ChangeMaps5
import Derived.Deep.DeepCutAuto
namespace Go.Proofs.YtgeiegjpnnbloaaDoor
open Go.RowKit Go.Deep

theorem low1 (c : BitVec 32) : (c &&& 1#32).toNat = if c.getLsbD 0 then 1 else 0 := by
  have : (1#32).toNat = 2 ^ 1 - 1 := by decide
  rw [BitVec.toNat_and, this, Nat.and_two_pow_sub_one_eq_mod]
  simp only [BitVec.getLsbD, Nat.testBit_zero]
  by_cases h : c.toNat % 2 = 1
  · simp [h]
  · have h0 : c.toNat % 2 = 0 := by omega
    simp [h0]
theorem shr1 (c : BitVec 32) : (c.toNat : Int) / 2 = ((c >>> 1).toNat : Nat) := by
  rw [BitVec.toNat_ushiftRight, Nat.shiftRight_eq_div_pow]
  omega
set_option maxRecDepth 100000 in
set_option maxHeartbeats 4000000 in
theorem rmore_any (L : List UInt8) (A : Option Addr) (n c : Nat) (w : World) (hA : Sl w w.heap.size 1 A n (L.flatMap u8L)) (hn : L.length = n) (hm : n ≤ maxLen) : Calls Tryd.prog 27 #[.int .i64 0, .slice A n c] w fun e w' => e = .returned (.int .i64 ((crcF L).toNat : Nat)) ∧ w' = w := by
  have HA := Lib.hid hA; have HN := Lib.hid hn
  clear hA hn
  unfold maxLen at hm
  have hs := (crcF L).isLt
  obtain ⟨z, hz⟩ : ∃ z, (crcF L).toNat = z := ⟨_, rfl⟩
  rw [hz] at hs ⊢
  have HZ := Lib.hid hz
  clear hz
  have h0 : Go.bits .xor .u32 0 4294967295 = ((4294967295#32).toNat : Nat) := by rfl
  obtain ⟨c0, hc0⟩ : ∃ c, (4294967295#32) = c := ⟨_, rfl⟩
  rw [hc0] at h0
  go_enter Tryd.func27, Tryd.ntmps27
  go_wp2
  go_loopw [5, 6] (fun v i wr => ∃ k : Nat, k ≤ n ∧ i = .int .i64 k ∧ v = .int .u32 (((L.take k).foldl crcStep 4294967295#32).toNat : Nat) ∧ wr = w) (fun _ i _ => n - (intOf i).toNat)
  case atStart => exact ⟨0, Nat.zero_le _, rfl, by rw [List.take_zero, List.foldl_nil, hc0], rfl⟩
  case round =>
  obtain ⟨k, hk, rfl, rfl, rfl⟩ := hrel
  obtain ⟨cc, hcc⟩ : ∃ c, (L.take k).foldl crcStep 4294967295#32 = c := ⟨_, rfl⟩
  rw [hcc]
  by_cases hlt : k < n
  · have hki : (k : Int) < n := by omega
    obtain ⟨b, o, x, rfl, hbl, hx, hc⟩ := HA.out.get (f := u8L) (fun _ => rfl) HN.out hlt
    have a0 := hc 0 _ rfl
    simp only [Nat.add_zero, Nat.mul_one] at a0
    have hnext : (L.take (k + 1)).foldl crcStep 4294967295#32 = bits (cc ^^^ wordB x) 8 := by rw [List.take_add_one, hx, List.foldl_append, hcc, bits8]; rfl
    rw [← wordB_nat x] at a0
    obtain ⟨xb, hxb⟩ : ∃ y, wordB x = y := ⟨_, rfl⟩
    rw [hxb] at a0 hnext
    have e1 := xor32 cc xb
    have e2 := u32_small xb
    obtain ⟨c1, hc1⟩ : ∃ y, cc ^^^ xb = y := ⟨_, rfl⟩
    rw [hc1] at hnext e1
    have HNx := Lib.hid hnext
    obtain ⟨V, hV⟩ : ∃ V, V = wr := ⟨_, rfl⟩
    subst hV
    clear hc hx hcc hxb hc1 hnext
    go_wp2
    go_loopw [5, 7] (fun v i w2 => ∃ j : Nat, j ≤ 8 ∧ i = .int .i64 j ∧ v = .int .u32 ((bits c1 j).toNat : Nat) ∧ w2 = V) (fun _ i _ => 8 - (intOf i).toNat)
    case atStart => exact ⟨0, by omega, rfl, rfl, rfl⟩
    case round =>
    obtain ⟨j, hj, rfl, rfl, hwv⟩ := hrel
    subst hwv
    clear a0 e1 e2
    obtain ⟨d, hd⟩ : ∃ y, bits c1 j = y := ⟨_, rfl⟩
    rw [hd]
    by_cases hj8 : j < 8
    · have hji : (j : Int) < 8 := by omega
      have hnx : bits c1 (j + 1) = bitB d := by show bitB (bits c1 j) = _; rw [hd]
      have HNj := Lib.hid hnx
      have hl1 := low1 d
      have ha := and32 d 1#32
      have hsr := shr1 d
      have hsl := u32_small (d >>> 1)
      cases hb0 : d.getLsbD 0 with
      | false =>
        have hbit : bitB d = d >>> 1 := bit_even d hb0
        rw [hl1, hb0] at ha
        replace ha : Go.bits .and .u32 (d.toNat : Int) 1 = 0 := ha
        obtain ⟨y, hy⟩ : ∃ y, d >>> 1 = y := ⟨_, rfl⟩
        rw [hy] at hsr hsl hbit
        have HB := Lib.hid hbit
        clear hd hnx hl1 hb0 hbit hy
        go_wp2
        go_roundw
        case rel => exact ⟨j + 1, by omega, by go_num, by rw [HNj.out, HB.out, ← hsr]; rfl, trivial⟩
        case measure => simp [intOf]; omega
      | true =>
        have hbit : bitB d = (d >>> 1) ^^^ polyB := by unfold bitB; rw [hb0]; rfl
        have hx2 := xor32 (d >>> 1) polyB
        rw [← hbit, ← hsr] at hx2
        rw [hl1, hb0] at ha
        replace ha : Go.bits .and .u32 (d.toNat : Int) 1 = 1 := ha
        replace hx2 : Go.bits .xor .u32 ((d.toNat : Int) / 2) 3988292384 = ((bitB d).toNat : Nat) := hx2
        obtain ⟨y, hy⟩ : ∃ y, bitB d = y := ⟨_, rfl⟩
        rw [hy] at hx2
        have HB := Lib.hid hy
        clear hd hnx hl1 hb0 hbit hy hsl hsr
        go_wp2
        go_roundw
        case rel => exact ⟨j + 1, by omega, by go_num, by rw [HNj.out, HB.out], trivial⟩
        case measure => simp [intOf]; omega
    · obtain rfl : j = 8 := by omega
      have HD := Lib.hid hd
      clear hd
      go_wp2
      go_roundw
      case rel => exact ⟨k + 1, by omega, by go_num, by rw [HNx.out, HD.out], trivial⟩
      case measure => simp [intOf]; omega
  · obtain rfl : k = n := by omega
    have hki : ¬ (k : Int) < k := by omega
    have hall : (cc ^^^ 4294967295#32) = crcF L := by
      unfold crcF
      rw [← hcc, List.take_of_length_le (by rw [HN.out]; exact Nat.le_refl _)]
    have e1 := xor32 cc 4294967295#32
    rw [hall] at e1
    rw [HZ.out] at e1
    replace e1 : Go.bits .xor .u32 (cc.toNat : Int) 4294967295 = (z : Nat) := e1
    clear hcc hall
    go_wp2
    go_ret
    exact ⟨rfl, rfl⟩
theorem rcrc_any (L : List UInt8) (A : Option Addr) (n c : Nat) (w : World) (hA : Sl w w.heap.size 1 A n (L.flatMap u8L)) (hn : L.length = n) (hm : n ≤ maxLen) : Calls Tryd.prog 15 #[.slice A n c] w fun e w' => e = .returned (.int .i64 ((crcF L).toNat : Nat)) ∧ w' = w := by
  have HM := Lib.hid (rmore_any L A n c w hA hn hm)
  clear hA hn hm
  go_enter Tryd.func15, Tryd.ntmps15
  go_wp2_with (go_at_call 27; refine HM.out.mono ?_; rintro e w1 ⟨rfl, hw⟩; rw [hw]; clear hw)
  go_ret
  exact ⟨rfl, rfl⟩
end Go.Proofs.YtgeiegjpnnbloaaDoor
