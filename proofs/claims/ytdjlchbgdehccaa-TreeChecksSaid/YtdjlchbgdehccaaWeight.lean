/- tree.Weight, of trees whose weights are small. -/
import Derived.Test.YtdjlchbgdehccaaCheck
import Derived.Test.YtdjlchbgdehccaaSum
import Derived.Test.YtdjlchbgdehccaaKmk
import Derived.Maps.OwnIn
namespace Go.Proofs.Ytdjlchbgdehccaa
open Go.RowKit Go.Shelf

def dirW (k : Nat) : Nat := max 1 ((k + 15) / 16)
def fileW (n : Nat) : Nat := if 8 < (n + 511) / 512 then (n + 511) / 512 + 1 else (n + 511) / 512
theorem parts_any (n by_ : Nat) (hn : n ≤ 4611686018427387904) (hb : 0 < by_) (hb2 : by_ ≤ 512) (w : World) : Calls Try.prog 78 #[.int .i64 n, .int .i64 by_] w fun e w' => e = .returned (.int .i64 ((n + (by_ - 1)) / by_ : Nat)) ∧ w' = w := by
  have h0 : ((by_ : Int) == 0) = false := beq_eq_false_iff_ne.2 (by omega)
  obtain ⟨c, rfl⟩ : ∃ c, by_ = c + 1 := ⟨by_ - 1, by omega⟩
  go_enter Try.func78, Try.ntmps78
  go_wp2
  go_ret
  refine ⟨?_, rfl⟩
  show Ending.returned (.int .i64 (((n : Int) + ((c : Int) + 1) - 1) / ((c : Int) + 1))) = _
  have e1 : (n : Int) + ((c : Int) + 1) - 1 = ((n + (c + 1 - 1) : Nat) : Int) := by omega
  have e2 : ((c : Int) + 1) = ((c + 1 : Nat) : Int) := by omega
  rw [e1, e2, ← Int.natCast_ediv]
theorem N_one : (4607182418800017408 : Nat) = N 1 := by decide +kernel
theorem parts16 (k : Nat) (hk : k ≤ 4611686018427387904) (w : World) : Calls Try.prog 78 #[.int .i64 k, .int .i64 16] w fun e w' => e = .returned (.int .i64 ((k + 15) / 16 : Nat)) ∧ w' = w := parts_any k 16 hk (by omega) (by omega) w
theorem parts512 (k : Nat) (hk : k ≤ 4611686018427387904) (w : World) : Calls Try.prog 78 #[.int .i64 k, .int .i64 512] w fun e w' => e = .returned (.int .i64 ((k + 511) / 512 : Nat)) ∧ w' = w := parts_any k 512 hk (by omega) (by omega) w
theorem dir_any (k : Nat) (hk : k ≤ 4611686018427387904) (w : World) : Calls Try.prog 50 #[.int .i64 k] w fun e w' => e = .returned (.complex .f64 (N (dirW k)) (N 1)) ∧ w' = w := by
  have h1 := N_one
  replace h1 := Lib.hid h1
  obtain ⟨q, hq⟩ : ∃ q, (k + 15) / 16 = q := ⟨_, rfl⟩
  have hp := parts16 k hk
  rw [hq] at hp
  have hd : dirW k = max 1 q := by unfold dirW; rw [hq]
  have hq2 : q ≤ 4611686018427387904 := by omega
  replace hq := Lib.hid hq
  replace hp := Lib.hid hp
  replace hd := Lib.hid hd
  by_cases h0 : 1 < q
  · have h0' : (1 : Int) < q := by omega
    have hd2 : dirW k = q := by rw [hd.out]; omega
    replace hd2 := Lib.hid hd2
    go_enter Try.func50, Try.ntmps50
    go_wp2_with (go_at_call 78; refine (hp.out _).mono ?_; rintro e w1 ⟨rfl, rfl⟩)
    go_ret
    exact ⟨by rw [hd2.out, ← h1.out]; rfl, rfl⟩
  · have h0' : ¬ (1 : Int) < q := by omega
    have hd2 : dirW k = 1 := by rw [hd.out]; omega
    replace hd2 := Lib.hid hd2
    go_enter Try.func50, Try.ntmps50
    go_wp2_with (go_at_call 78; refine (hp.out _).mono ?_; rintro e w1 ⟨rfl, rfl⟩)
    go_ret
    exact ⟨by rw [hd2.out, ← h1.out]; rfl, rfl⟩
theorem file_any (k : Nat) (hk : k ≤ 4611686018427387904) (w : World) : Calls Try.prog 51 #[.int .i64 k] w fun e w' => e = .returned (.complex .f64 (N (fileW k)) (N 1)) ∧ w' = w := by
  have h1 := N_one
  replace h1 := Lib.hid h1
  obtain ⟨q, hq⟩ : ∃ q, (k + 511) / 512 = q := ⟨_, rfl⟩
  have hp := parts512 k hk
  rw [hq] at hp
  have hd : fileW k = if 8 < q then q + 1 else q := by unfold fileW; rw [hq]
  have hq2 : q ≤ 4611686018427387904 := by omega
  replace hq := Lib.hid hq
  replace hp := Lib.hid hp
  replace hd := Lib.hid hd
  by_cases h0 : 8 < q
  · have h0' : (8 : Int) < q := by omega
    have hd2 : fileW k = q + 1 := by rw [hd.out, if_pos h0]
    replace hd2 := Lib.hid hd2
    go_enter Try.func51, Try.ntmps51
    go_wp2_with (go_at_call 78; refine (hp.out _).mono ?_; rintro e w1 ⟨rfl, rfl⟩)
    go_ret
    exact ⟨by rw [hd2.out, ← h1.out]; rfl, rfl⟩
  · have h0' : ¬ (8 : Int) < q := by omega
    have hd2 : fileW k = q := by rw [hd.out, if_neg h0]
    replace hd2 := Lib.hid hd2
    go_enter Try.func51, Try.ntmps51
    go_wp2_with (go_at_call 78; refine (hp.out _).mono ?_; rintro e w1 ⟨rfl, rfl⟩)
    go_ret
    exact ⟨by rw [hd2.out, ← h1.out]; rfl, rfl⟩
end Go.Proofs.Ytdjlchbgdehccaa
