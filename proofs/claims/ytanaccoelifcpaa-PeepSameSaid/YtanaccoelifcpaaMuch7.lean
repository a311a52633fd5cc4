/- shuntlaw7.Much. -/
import Derived.Test.YtanaccoelifcpaaOpenS
namespace Go.Proofs.Ytanaccoelifcpaa
open Go.RowKit

/-- A bool of which nothing is said. -/
def SomeB (w : World) (e : Ending) (w' : World) : Prop := ∃ b : Bool, e = .returned (.bool b) ∧ Below w.heap.size w w'
theorem much7 (SA : Option Addr) (sn sc : Nat) (ss : List SC) (sd : List ByteArray) (w : World) (h : StockAt w SA sn ss sd) : Calls Try.prog 6 #[.slice SA sn sc] w (SomeB w) := by
  have hsl := h.sl
  have hlen := h.len
  have hm := h.nm
  have HS := Lib.hid hsl; clear hsl
  have Hn := Lib.hid hlen; clear hlen h
  go_enter Try.func6, Try.ntmps6
  go_wp2
  go_loop [3, 4] (fun v i => ∃ (k : Nat) (m : Int), k ≤ sn ∧ i = .int .i64 k ∧ v = .int .i64 m) (fun _ i => sn - (intOf i).toNat)
  case atStart => exact ⟨0, 0, Nat.zero_le _, rfl, rfl⟩
  case round =>
    obtain ⟨k, m, hk, rfl, rfl⟩ := hrel
    by_cases hlt : k < sn ∧ m ≤ 60000
    · obtain ⟨hlt, hm2⟩ := hlt
      have hki : (k : Int) < sn := by omega
      obtain ⟨b, o, x, rfl, hbl, hx, hc⟩ := HS.out.get SC.len Hn.out hlt
      have c0 := hc 0 _ rfl
      simp only [Nat.add_zero, Nat.mul_one] at c0
      clear hc hx
      go_wp2
      go_round
      case rel => exact ⟨k + 1, _, by omega, by go_num, rfl⟩
      case measure => simp [intOf]; omega
    · have hend : ((k : Int) < sn ∧ ¬ m ≤ 60000) ∨ ¬ (k : Int) < sn := by omega
      clear hlt
      rcases hend with ⟨e1, e2⟩ | e1
      all_goals
        by_cases f1 : 60000 < m
        · go_wp2
          go_ret
          exact ⟨true, rfl, Below.refl _ _⟩
        · try (exfalso; omega)
          all_goals
            by_cases f2 : (200 : Int) < sn
            · go_wp2
              go_ret
              exact ⟨true, rfl, Below.refl _ _⟩
            · go_wp2
              go_ret
              exact ⟨false, rfl, Below.refl _ _⟩
end Go.Proofs.Ytanaccoelifcpaa
