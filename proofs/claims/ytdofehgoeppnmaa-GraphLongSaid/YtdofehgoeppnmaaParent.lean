/- path.Parent. -/
import Derived.Test.YtdofehgoeppnmaaValid
namespace Go.Proofs.Ytdofehgoeppnmaa
open Go.RowKit

/-- The last place ahead of k where c stands; -1: there is none. -/
def lastTo (l : List UInt8) (c : UInt8) : Nat → Int
  | 0 => -1
  | k + 1 => if l[k]? = some c then k else lastTo l c k
theorem lastTo_lt (l : List UInt8) (c : UInt8) : ∀ k, -1 ≤ lastTo l c k ∧ lastTo l c k < k
  | 0 => by simp [lastTo]
  | k + 1 => by
    have := lastTo_lt l c k
    unfold lastTo
    split <;> omega
def lastIx (s : ByteArray) (c : UInt8) : Int := lastTo s.data.toList c s.size
set_option maxHeartbeats 1000000 in
theorem lastString_any (s : ByteArray) (c : UInt8) (w : World) (hs : s.size ≤ 9223372036854775807) : Calls Try.prog 29 #[.string s, .int .u8 c.toNat] w fun e w' => e = .returned (.int .i64 (lastIx s c)) ∧ Below w.heap.size w w' := by
  go_enter Try.func29, Try.ntmps29
  go_wp2
  go_loop [5] (fun i => ∃ k : Nat, k ≤ s.size ∧ i = .int .i64 ((k : Int) - 1) ∧ lastIx s c = lastTo s.data.toList c k) (fun i => (intOf i + 1).toNat)
  case atStart => exact ⟨s.size, Nat.le_refl _, rfl, rfl⟩
  case round =>
    obtain ⟨k, hk, rfl, hl⟩ := hrel
    replace hl := Lib.hid hl
    by_cases h0 : 0 < k
    · obtain ⟨j, rfl⟩ : ∃ j, k = j + 1 := ⟨k - 1, by omega⟩
      have hj : j < s.size := by omega
      have e1 : (((j + 1 : Nat) : Int) - 1) = (j : Int) := by omega
      rw [e1]
      replace e1 := Lib.hid e1
      have hji : (0 : Int) ≤ j := by omega
      obtain ⟨d, hd⟩ : ∃ d, s[j]'hj = d := ⟨_, rfl⟩
      have hg : s.data.toList[j]? = some d := by rw [List.getElem?_eq_getElem (by simpa using hj)]; exact congrArg some hd
      by_cases he : d = c
      · have hfin : lastIx s c = j := by rw [hl.out, lastTo, if_pos (by rw [hg, he])]
        replace hfin := Lib.hid hfin
        have hb : ((d.toNat : Int) == c.toNat) = true := by rw [he]; simp
        replace hg := Lib.hid hg
        clear he
        go_wp2
        go_ret
        exact ⟨by rw [hfin.out]; rfl, Below.refl _ _⟩
      · have hfin : lastIx s c = lastTo s.data.toList c j := by rw [hl.out, lastTo, if_neg (by rw [hg]; intro h; injection h with h; exact he h)]
        replace hfin := Lib.hid hfin
        have hb : ((d.toNat : Int) == c.toNat) = false := beq_eq_false_iff_ne.2 (fun h => he (UInt8.toNat_inj.1 (by omega)))
        replace hg := Lib.hid hg
        clear he
        go_wp2
        go_round
        case rel => exact ⟨j, by omega, rfl, hfin.out⟩
        case measure => simp [intOf]
    · obtain rfl : k = 0 := by omega
      have hfin : lastIx s c = -1 := hl.out
      replace hfin := Lib.hid hfin
      go_wp2
      go_ret
      exact ⟨by rw [hfin.out]; rfl, Below.refl _ _⟩
set_option maxHeartbeats 1000000 in
theorem last_any (s : ByteArray) (c : UInt8) (w : World) (hs : s.size ≤ 9223372036854775807) : Calls Try.prog 20 #[.string s, .int .u8 c.toNat] w fun e w' => e = .returned (.int .i64 (lastIx s c)) ∧ Below w.heap.size w w' := by
  go_enter Try.func20, Try.ntmps20
  go_wp2_with (go_at_call 29; refine (lastString_any s c _ hs).mono ?_; rintro e w1 ⟨rfl, hb1⟩)
  go_ret
  exact ⟨rfl, hb1⟩
theorem last_slash (s : ByteArray) (w : World) (hs : s.size ≤ 9223372036854775807) : Calls Try.prog 20 #[.string s, .int .u8 47] w fun e w' => e = .returned (.int .i64 (lastIx s 47)) ∧ Below w.heap.size w w' := last_any s 47 w hs

/-- The parent's text. -/
def parentB (s : ByteArray) : ByteArray := if validL s.data.toList = true then s.extract 0 (lastIx s 47).toNat else ByteArray.empty
theorem parentB_size (s : ByteArray) : (parentB s).size ≤ s.size := by
  unfold parentB
  split
  · simp; omega
  · exact Nat.zero_le _
set_option maxHeartbeats 1000000 in
theorem parent_any (s : ByteArray) (w : World) (hs : s.size ≤ 9223372036854775807) : Calls Try.prog 11 #[.string s] w fun e w' => e = .returned (.string (parentB s)) ∧ Below w.heap.size w w' := by
  have hx := lastTo_lt s.data.toList 47 s.size
  obtain ⟨x, hxx⟩ : ∃ x, lastIx s 47 = x := ⟨_, rfl⟩
  have hx1 : -1 ≤ x := by rw [← hxx]; exact hx.1
  have hx2 : x < s.size := by rw [← hxx]; exact hx.2
  clear hx
  cases hv : validL s.data.toList with
  | false =>
    have hfin : parentB s = ByteArray.empty := by simp [parentB, hv]
    replace hfin := Lib.hid hfin
    replace hv := Lib.hid hv
    go_enter Try.func11, Try.ntmps11
    go_wp2_with (go_at_call 13; refine (valid_any s _ hs).mono ?_; rintro e w1 ⟨rfl, hb1⟩; rw [hv.out])
    go_ret
    exact ⟨by rw [hfin.out]; rfl, hb1⟩
  | true =>
    have hfin : parentB s = s.extract 0 x.toNat := by simp [parentB, hv, hxx]
    replace hfin := Lib.hid hfin
    replace hv := Lib.hid hv
    replace hxx := Lib.hid hxx
    by_cases h0 : 0 < x
    · obtain ⟨j, rfl⟩ := Int.eq_ofNat_of_zero_le (show 0 ≤ x by omega)
      have hj : j ≤ s.size := by omega
      go_enter Try.func11, Try.ntmps11
      go_wp2_with (first | (go_at_call 13; refine (valid_any s _ hs).mono ?_; rintro e w1 ⟨rfl, hb1⟩; rw [hv.out]) | (go_at_call 20; refine (last_slash s _ hs).mono ?_; rintro e w2 ⟨rfl, hb2⟩; rw [hxx.out]))
      all_goals
        go_ret
        exact ⟨by rw [hfin.out]; rfl, hb1.trans (hb2.mono hb1.size)⟩
    · have hz : x.toNat = 0 := by omega
      have hfin2 : parentB s = ByteArray.empty := by rw [hfin.out, hz]; exact ba_ext (by simp)
      replace hfin2 := Lib.hid hfin2
      clear hz
      go_enter Try.func11, Try.ntmps11
      go_wp2_with (first | (go_at_call 13; refine (valid_any s _ hs).mono ?_; rintro e w1 ⟨rfl, hb1⟩; rw [hv.out]) | (go_at_call 20; refine (last_slash s _ hs).mono ?_; rintro e w2 ⟨rfl, hb2⟩; rw [hxx.out]))
      all_goals
        go_ret
        exact ⟨by rw [hfin2.out]; rfl, hb1.trans (hb2.mono hb1.size)⟩
end Go.Proofs.Ytdofehgoeppnmaa
