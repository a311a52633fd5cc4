/- toll.Sum on small whole numbers; the weights of directories and files. -/
import Derived.Test.YtdjlchbgdehccaaNum
namespace Go.Proofs.Ytdjlchbgdehccaa
open Go.RowKit

theorem N_zero : N 0 = 0 := F_zero
theorem is_zero (w : World) : Calls Try.prog 96 #[.slice (some ⟨w.heap.size, 0, none⟩) 1 1] (w.alloc (.cells #[.complex .f64 0 0] 32)) fun e w' => e = .returned (.bool true) ∧ w' = w.alloc (.cells #[.complex .f64 0 0] 32) := by
  have := is_one 0 0 (by omega) (by omega) w
  rwa [N_zero] at this
def s1 (xs : List (Nat × Nat)) : Nat := (xs.map Prod.fst).sum
def s2 (xs : List (Nat × Nat)) : Nat := (xs.map Prod.snd).sum
theorem s1_snoc (xs : List (Nat × Nat)) (x : Nat × Nat) : s1 (xs ++ [x]) = s1 xs + x.1 := by simp [s1]
theorem s2_snoc (xs : List (Nat × Nat)) (x : Nat × Nat) : s2 (xs ++ [x]) = s2 xs + x.2 := by simp [s2]
theorem s1_take (xs : List (Nat × Nat)) (k : Nat) : s1 (xs.take k) ≤ s1 xs := by
  have h : s1 xs = s1 (xs.take k) + s1 (xs.drop k) := by
    conv => lhs; rw [← List.take_append_drop k xs]
    simp only [s1, List.map_append, List.sum_append]
  omega
theorem s2_take (xs : List (Nat × Nat)) (k : Nat) : s2 (xs.take k) ≤ s2 xs := by
  have h : s2 xs = s2 (xs.take k) + s2 (xs.drop k) := by
    conv => lhs; rw [← List.take_append_drop k xs]
    simp only [s2, List.map_append, List.sum_append]
  omega
/-- Tolls that are small, and stay small when summed. -/
structure SmallSum (xs : List (Nat × Nat)) : Prop where
  each : ∀ x ∈ xs, x.1 < 1073741824 ∧ x.2 < 1073741824
  t1 : s1 xs < 1073741824
  t2 : s2 xs < 1073741824
def RunRes (a b : Nat) (w : World) (e : Ending) (w' : World) : Prop := e = .returned (.tuple #[.complex .f64 (N a) (N b), .complex .f64 (N a) (N b), .int .i64 0]) ∧ Below w.heap.size w w'
set_option maxHeartbeats 2000000 in
theorem run_any (xs : List (Nat × Nat)) (hx : SmallSum xs) (A : Option Addr) (n c : Nat) (w : World) (hS : Sl w w.heap.size 1 A n (xs.flatMap tollC)) (hn : xs.length = n) (hm : n ≤ 1024) :
    Calls Try.prog 79 #[.complex .f64 0 0, .slice A n c] w (RunRes (s1 xs) (s2 xs) w) := by
  have HS := Lib.hid hS; clear hS
  have Hn := Lib.hid hn; clear hn
  have HX := Lib.hid hx; clear hx
  have hS1 := Lib.hid (HS.out.keep (w' := w.alloc (.cells #[.complex .f64 0 0] 32)) (B' := (w.alloc (.cells #[.complex .f64 0 0] 32)).heap.size) (by simp) (fun k hk => Below.heap_alloc _ _ k hk))
  have hall : ∀ x ∈ xs, x.1 < 4294967296 ∧ x.2 < 4294967296 := fun x hx => by have := HX.out.each x hx; omega
  replace hall := Lib.hid hall
  have tok1 : True := trivial
  go_enter Try.func79, Try.ntmps79
  go_upto_block 1 with (first | (go_at_call 96; have _t := tok1; refine (is_zero _).mono ?_; rintro e w1 ⟨rfl, rfl⟩; clear tok1 _t) | (go_at_call 96; refine (is_any xs hall.out _ _ _ _ hS1.out Hn.out (by omega)).mono ?_; rintro e w1 ⟨rfl, rfl⟩))
  go_wp2
  have hb0 : Below w.heap.size w (w.alloc (.cells #[.complex .f64 0 0] 32)) := (Below.refl _ _).alloc (Nat.le_refl _) _
  go_loopw [4, 5, 26] (fun v p i wr => ∃ k : Nat, k ≤ n ∧ i = .int .i64 k ∧ v = .complex .f64 (N (s1 (xs.take k))) (N (s2 (xs.take k))) ∧ p = .complex .f64 (N (s1 (xs.take k))) (N (s2 (xs.take k))) ∧ Below w.heap.size w wr) (fun _ _ i _ => n - (intOf i).toNat)
  case atStart =>
    have e1 : N (s1 (xs.take 0)) = 0 := N_zero
    have e2 : N (s2 (xs.take 0)) = 0 := N_zero
    exact ⟨0, Nat.zero_le _, rfl, by rw [e1, e2], by rw [e1, e2], hb0⟩
  case round =>
    obtain ⟨k, hk, rfl, rfl, rfl, hb⟩ := hrel
    by_cases hlt : k < n
    · have hki : (k : Int) < n := by omega
      obtain ⟨b, o, x, rfl, hbl, hx, hc⟩ := (HS.out.keep (Nat.le_refl _) hb.block).get tollC_len Hn.out hlt
      have c0 := hc 0 _ rfl
      simp only [Nat.mul_one, Nat.add_zero] at c0
      clear hc
      have hxm := HX.out.each x (List.mem_of_getElem? hx)
      have ht := take_snoc' hx
      have t1 := s1_take xs (k + 1)
      have t2 := s2_take xs (k + 1)
      rw [ht, s1_snoc] at t1
      rw [ht, s2_snoc] at t2
      have u1 := HX.out.t1
      have u2 := HX.out.t2
      obtain ⟨a1, ha1⟩ : ∃ a, s1 (xs.take k) = a := ⟨_, rfl⟩
      obtain ⟨a2, ha2⟩ : ∃ a, s2 (xs.take k) = a := ⟨_, rfl⟩
      rw [ha1] at t1 ⊢
      rw [ha2] at t2 ⊢
      obtain ⟨x1, x2⟩ := x
      simp only at hxm t1 t2 c0
      have q1 : a1 + x1 < 1073741824 := by omega
      have q2 : a2 + x2 < 1073741824 := by omega
      have hsum := fun w => run_complex_sum (P := Try.prog) w .add (.inl rfl) 32 .f64 (N a1) (N a2) (N x1) (N x2) (N (a1 + x1)) (N (a2 + x2)) (by simp [cSumBits, N_add a1 (by omega) x1 hxm.1, N_add a2 (by omega) x2 hxm.2])
      have hr1 : s1 (xs.take (k + 1)) = a1 + x1 := by rw [ht, s1_snoc, ha1]
      have hr2 : s2 (xs.take (k + 1)) = a2 + x2 := by rw [ht, s2_snoc, ha2]
      replace hr1 := Lib.hid hr1
      replace hr2 := Lib.hid hr2
      clear ht hx ha1 ha2 u1 u2 t1 t2
      go_wp2_with (first | (go_at_call 96; refine (is_one (a1 + x1) (a2 + x2) (by omega) (by omega) _).mono ?_; rintro e w1 ⟨rfl, rfl⟩) | (go_at_call 97; refine (most_any a1 a2 x1 x2 (by omega) (by omega) hxm.1 hxm.2 _).mono ?_; rintro e w1 ⟨rfl, hb1⟩))
      go_roundw
      case rel => exact ⟨k + 1, by omega, by go_num, by rw [hr1.out, hr2.out], by rw [hr1.out, hr2.out], (hb.alloc hb.size _).trans (hb1.mono (by have := hb.size; simp; omega))⟩
      case measure => simp [intOf]; omega
    · obtain rfl : k = n := by omega
      rw [List.take_of_length_le (by rw [Hn.out]; exact Nat.le_refl _)]
      go_wp2
      go_ret3
      exact ⟨rfl, hb⟩
theorem sum_any (xs : List (Nat × Nat)) (hx : SmallSum xs) (A : Option Addr) (n c : Nat) (w : World) (hS : Sl w w.heap.size 1 A n (xs.flatMap tollC)) (hn : xs.length = n) (hm : n ≤ 1024) :
    Calls Try.prog 52 #[.slice A n c] w (TollRes (s1 xs) (s2 xs) w) := by
  have HS := Lib.hid hS; clear hS
  have Hn := Lib.hid hn; clear hn
  have HX := Lib.hid hx
  have u1 := hx.t1
  have u2 := hx.t2
  clear hx
  obtain ⟨a1, ha1⟩ : ∃ a, s1 xs = a := ⟨_, rfl⟩
  obtain ⟨a2, ha2⟩ : ∃ a, s2 xs = a := ⟨_, rfl⟩
  have hrun := run_any xs HX.out A n c w HS.out Hn.out hm
  rw [ha1, ha2] at hrun ⊢
  rw [ha1] at u1
  rw [ha2] at u2
  replace hrun := Lib.hid hrun
  clear ha1 ha2
  go_enter Try.func52, Try.ntmps52
  go_wp2_with (first | (go_at_call 79; refine hrun.out.mono ?_; rintro e w1 ⟨rfl, hb1⟩) | (go_at_call 80; refine (told_any a1 a2 (by omega) (by omega) _).mono ?_; rintro e w2 ⟨rfl, hb2⟩))
  go_ret2
  exact ⟨rfl, hb1.trans (hb2.mono hb1.size)⟩
end Go.Proofs.Ytdjlchbgdehccaa
