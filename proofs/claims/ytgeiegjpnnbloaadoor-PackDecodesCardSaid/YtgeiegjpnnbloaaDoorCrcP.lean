/- The checksum bit by bit is the checksum by fours. -/
import Derived.Test.YtgeiegjpnnbloaaDoorCrc
namespace Go.Proofs.YtgeiegjpnnbloaaDoor

def polyB : BitVec 32 := 3988292384#32
def bitB (c : BitVec 32) : BitVec 32 := (c >>> 1) ^^^ (if c.getLsbD 0 then polyB else 0#32)
theorem xlc (a b c : BitVec 32) : a ^^^ (b ^^^ c) = b ^^^ (a ^^^ c) := by rw [← BitVec.xor_assoc, BitVec.xor_comm a b, BitVec.xor_assoc]
theorem xss (a c : BitVec 32) : a ^^^ (a ^^^ c) = c := by rw [← BitVec.xor_assoc, BitVec.xor_self, BitVec.zero_xor]
theorem bit_xor (a b : BitVec 32) : bitB (a ^^^ b) = bitB a ^^^ bitB b := by
  unfold bitB
  rw [BitVec.ushiftRight_xor_distrib, BitVec.getLsbD_xor]
  obtain ⟨x, hx⟩ : ∃ x, a >>> 1 = x := ⟨_, rfl⟩
  obtain ⟨y, hy⟩ : ∃ y, b >>> 1 = y := ⟨_, rfl⟩
  obtain ⟨p, hp⟩ : ∃ p, polyB = p := ⟨_, rfl⟩
  rw [hx, hy, hp]
  clear hx hy hp
  cases a.getLsbD 0 <;> cases b.getLsbD 0 <;> simp only [Bool.xor_false, Bool.xor_true, Bool.not_true, Bool.not_false, Bool.false_eq_true, if_true, if_false, BitVec.xor_zero, BitVec.xor_assoc]
  · rw [BitVec.xor_comm p y]; done
  all_goals first | rfl | rw [xlc y p, BitVec.xor_comm y p] | (rw [xlc x p, xlc p x, BitVec.xor_comm p y]) | (rw [xlc p y p, BitVec.xor_self, BitVec.xor_zero])
def bit4 (c : BitVec 32) : BitVec 32 := bitB (bitB (bitB (bitB c)))
theorem bit4_xor (a b : BitVec 32) : bit4 (a ^^^ b) = bit4 a ^^^ bit4 b := by unfold bit4; rw [bit_xor, bit_xor, bit_xor, bit_xor]
theorem bit_even (c : BitVec 32) (h : c.getLsbD 0 = false) : bitB c = c >>> 1 := by unfold bitB; rw [h]; simp
theorem bit4_high (c : BitVec 32) : bit4 ((c >>> 4) <<< 4) = c >>> 4 := by
  have e : ∀ k, k < 4 → (((c >>> 4) <<< 4) >>> k).getLsbD 0 = false := fun k hk => by
    rw [BitVec.getLsbD_ushiftRight, BitVec.getLsbD_shiftLeft]
    simp
    omega
  have h0 := bit_even ((c >>> 4) <<< 4) (by simp)
  unfold bit4
  rw [h0, bit_even _ (e 1 (by omega)), ← BitVec.shiftRight_add, bit_even _ (e 2 (by omega)), ← BitVec.shiftRight_add, bit_even _ (e 3 (by omega)), ← BitVec.shiftRight_add]
  apply BitVec.eq_of_getLsbD_eq
  intro i hi
  simp only [BitVec.getLsbD_ushiftRight, BitVec.getLsbD_shiftLeft]
  by_cases h : i < 28
  · simp; omega
  · simp [BitVec.getLsbD_of_ge c (4 + i) (by omega)]
    
theorem split4 (c : BitVec 32) : c = ((c >>> 4) <<< 4) ^^^ (c &&& 15#32) := by
  apply BitVec.eq_of_getLsbD_eq
  intro i hi
  rw [BitVec.getLsbD_xor, BitVec.getLsbD_shiftLeft, BitVec.getLsbD_ushiftRight, BitVec.getLsbD_and]
  have h15 : (15#32).getLsbD i = decide (i < 4) := by
    have : i < 4 ∨ 4 ≤ i := by omega
    rcases this with h | h
    · have : i = 0 ∨ i = 1 ∨ i = 2 ∨ i = 3 := by omega
      rcases this with rfl | rfl | rfl | rfl <;> rfl
    · rw [decide_eq_false (by omega)]
      exact BitVec.getLsbD_of_ge (15#4 : BitVec 4) i h |> fun hh => by
        have e : (15#32) = (15#4 : BitVec 4).setWidth 32 := by rfl
        rw [e, BitVec.getLsbD_setWidth, hh]; simp
  rw [h15]
  by_cases h : i < 4
  · simp [h]
  · simp [h, hi, Nat.add_sub_cancel' (show 4 ≤ i by omega)]
theorem bit4_low (j : BitVec 32) (h : j.toNat < 16) : bit4 j = halfF j.toNat := by
  have hj : j = BitVec.ofNat 32 j.toNat := by rw [BitVec.ofNat_toNat, BitVec.setWidth_eq]
  obtain ⟨n, hn⟩ : ∃ n, j.toNat = n := ⟨_, rfl⟩
  rw [hn] at hj h
  rw [hn, hj]
  have key : ∀ n : Nat, n < 16 → bit4 (BitVec.ofNat 32 n) = halfF n := by decide
  exact key n h
theorem bit4_nib (c : BitVec 32) : bit4 c = nibB c := by
  conv => lhs; rw [split4 c]
  rw [bit4_xor, bit4_high, bit4_low _ (low4 c), BitVec.xor_comm]
  rfl
def bits (c : BitVec 32) : Nat → BitVec 32
  | 0 => c
  | k + 1 => bitB (bits c k)
theorem bits8 (c : BitVec 32) : bits c 8 = nibB (nibB c) := by rw [← bit4_nib, ← bit4_nib]; rfl
end Go.Proofs.YtgeiegjpnnbloaaDoor
