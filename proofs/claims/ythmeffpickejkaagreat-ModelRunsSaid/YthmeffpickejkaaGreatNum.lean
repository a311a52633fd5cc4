/- Small whole numbers as floats: sums, comparisons, conversions are exact; package toll on them. -/
import Derived.Test.YthmeffpickejkaaGreatNum0
import Derived.Test.YthmeffpickejkaaGreatKit
import Derived.Test.YthmeffpickejkaaGreatFloat
namespace Go.Proofs.YthmeffpickejkaaGreat
open Go.RowKit

theorem whole_any (a : Nat) (ha : a < 4294967296) (w : World) : Calls Tryz.prog 91 #[.float .f64 (N a)] w fun e w' => e = .returned (.bool true) ∧ w' = w := by
  have h1 := N_ge a ha
  have h2 := N_le a ha
  have h3 := fun w => run_convert_float_int (P := Tryz.prog) w 73 3 .f64 .i64 (N a) a (by kernel_rfl) Tryz.underlying3 (N_int a ha)
  have h4 : (FloatKind.f64.format.order (N a) (floatOfInt .f64 (a : Int)) == some .eq) = true := N_eq a ha
  go_enter Tryz.func91, Tryz.ntmps91
  go_wp2
  go_ret
  exact ⟨rfl, rfl⟩
/-- Tolls as cells. -/
def tollC (x : Nat × Nat) : List Value := [.complex .f64 (N x.1) (N x.2)]
theorem tollC_len (x : Nat × Nat) : (tollC x).length = 1 := rfl
set_option maxHeartbeats 1000000 in
theorem is_any (xs : List (Nat × Nat)) (hx : ∀ x ∈ xs, x.1 < 4294967296 ∧ x.2 < 4294967296) (A : Option Addr) (n c : Nat) (w : World) (hS : Sl w w.heap.size 1 A n (xs.flatMap tollC)) (hn : xs.length = n) (hm : n ≤ 4611686018427387904) :
    Calls Tryz.prog 58 #[.slice A n c] w fun e w' => e = .returned (.bool true) ∧ w' = w := by
  have HS := Lib.hid hS; clear hS
  have Hn := Lib.hid hn; clear hn
  have Hx := Lib.hid hx; clear hx
  go_enter Tryz.func58, Tryz.ntmps58
  go_wp2
  go_loop [7] (fun i => ∃ k : Nat, k ≤ n ∧ i = .int .i64 k) (fun i => n - (intOf i).toNat)
  case atStart => exact ⟨0, Nat.zero_le _, rfl⟩
  case round =>
    obtain ⟨k, hk, rfl⟩ := hrel
    by_cases hlt : k < n
    · have hki : (k : Int) < n := by omega
      obtain ⟨b, o, x, rfl, hbl, hx, hc⟩ := HS.out.get tollC_len Hn.out hlt
      have c0 := hc 0 _ rfl
      simp only [Nat.mul_one, Nat.add_zero] at c0
      clear hc
      have hxm := Hx.out x (List.mem_of_getElem? hx)
      clear hx
      go_wp2_with (go_at_call 91; (first | ((with_reducible refine (whole_any x.1 hxm.1 _).mono ?_); rintro e w1 ⟨rfl, rfl⟩) | ((with_reducible refine (whole_any x.2 hxm.2 _).mono ?_); rintro e w1 ⟨rfl, rfl⟩)))
      go_round
      case rel => exact ⟨k + 1, by omega, by go_num⟩
      case measure => simp [intOf]; omega
    · obtain rfl : k = n := by omega
      go_wp2
      go_ret
      exact ⟨rfl, rfl⟩
theorem Sl.toll1 (w : World) (x : Nat × Nat) : Sl (w.alloc (.cells #[.complex .f64 (N x.1) (N x.2)] 39)) (w.alloc (.cells #[.complex .f64 (N x.1) (N x.2)] 39)).heap.size 1 (some ⟨w.heap.size, 0, none⟩) 1 ([x].flatMap tollC) :=
  ⟨rfl, fun _ => ⟨w.heap.size, 0, rfl, by simp, fun i v hi => by rw [Nat.zero_add, (Blk.new w _ _).cell i]; simpa [tollC] using hi⟩⟩
theorem Sl.toll2 (w : World) (x y : Nat × Nat) : Sl (w.alloc (.cells #[.complex .f64 (N x.1) (N x.2), .complex .f64 (N y.1) (N y.2)] 39)) (w.alloc (.cells #[.complex .f64 (N x.1) (N x.2), .complex .f64 (N y.1) (N y.2)] 39)).heap.size 1 (some ⟨w.heap.size, 0, none⟩) 2 ([x, y].flatMap tollC) :=
  ⟨rfl, fun _ => ⟨w.heap.size, 0, rfl, by simp, fun i v hi => by rw [Nat.zero_add, (Blk.new w _ _).cell i]; simpa [tollC] using hi⟩⟩
/-- is, of one toll, and of two. -/
theorem is_one (a b : Nat) (ha : a < 4294967296) (hb : b < 4294967296) (w : World) : Calls Tryz.prog 58 #[.slice (some ⟨w.heap.size, 0, none⟩) 1 1] (w.alloc (.cells #[.complex .f64 (N a) (N b)] 39)) fun e w' => e = .returned (.bool true) ∧ w' = w.alloc (.cells #[.complex .f64 (N a) (N b)] 39) :=
  is_any [(a, b)] (fun x hx => by rw [List.mem_singleton.1 hx]; exact ⟨ha, hb⟩) _ _ _ _ (Sl.toll1 w (a, b)) rfl (by omega)
theorem is_two (a b c d : Nat) (ha : a < 4294967296) (hb : b < 4294967296) (hc : c < 4294967296) (hd : d < 4294967296) (w : World) : Calls Tryz.prog 58 #[.slice (some ⟨w.heap.size, 0, none⟩) 2 2] (w.alloc (.cells #[.complex .f64 (N a) (N b), .complex .f64 (N c) (N d)] 39)) fun e w' => e = .returned (.bool true) ∧ w' = w.alloc (.cells #[.complex .f64 (N a) (N b), .complex .f64 (N c) (N d)] 39) :=
  is_any [(a, b), (c, d)] (fun x hx => by
    rcases List.mem_cons.1 hx with h | h
    · rw [h]; exact ⟨ha, hb⟩
    · rw [List.mem_singleton.1 h]; exact ⟨hc, hd⟩) _ _ _ _ (Sl.toll2 w (a, b) (c, d)) rfl (by omega)
/-- What a call that hands back a toll comes to. -/
def TollRes (a b : Nat) (w : World) (e : Ending) (w' : World) : Prop := e = .returned (.tuple #[.complex .f64 (N a) (N b), .int .i64 0]) ∧ Below w.heap.size w w'
set_option maxHeartbeats 1000000 in
theorem told_any (a b : Nat) (ha : a < 4294967296) (hb : b < 4294967296) (w : World) : Calls Tryz.prog 59 #[.complex .f64 (N a) (N b)] w (TollRes a b w) := by
  have h1 := fun w => run_float_arith (P := Tryz.prog) w .add 73 .f64 (N a) 0 (N a) (N_plus0 a ha)
  have h2 := fun w => run_float_arith (P := Tryz.prog) w .add 73 .f64 (N b) 0 (N b) (N_plus0 b hb)
  go_enter Tryz.func59, Tryz.ntmps59
  go_wp2_with (go_at_call 58; refine (is_one a b ha hb _).mono ?_; rintro e w1 ⟨rfl, rfl⟩)
  go_ret2
  exact ⟨rfl, (Below.refl _ _).alloc (Nat.le_refl _) _⟩
theorem N_lt (a : Nat) (ha : a < 1073741824) (e : Nat) (he : e < 1073741824) (h : 0 < e) : FloatKind.f64.format.order (N a) (N (a + e)) = some .lt := by
  rw [N_order a (a + e) (by omega) (by omega)]
  have key : ∀ x y : Int, compare x y = if x < y then .lt else if x = y then .eq else .gt := fun x y => rfl
  rw [key, if_pos (by omega)]
theorem run_maxN (ts : Array TypeId) (t : TypeId) (a e : Nat) (ha : a < 1073741824) (he : e < 1073741824) (w : World) : (Builtin.max_ ts t #[.float .f64 (N a), .float .f64 (N (a + e))]).run Tryz.prog w = .ok (.float .f64 (N (a + e))) w := by
  rcases Nat.eq_zero_or_pos e with h | h
  · subst h
    have := N_eq a (by omega)
    have h2 : FloatKind.f64.format.order (N a) (N a) = some .eq := by simpa using this
    simp [Builtin.max_, Builtin.max2, h2]
  · have h2 := N_lt a ha e he h
    simp [Builtin.max_, Builtin.max2, h2]
theorem most1_any (a e : Nat) (ha : a < 1073741824) (he : e < 1073741824) (w : World) : Calls Tryz.prog 38 #[.float .f64 (N a), .float .f64 (N (a + e))] w fun r w' => r = .returned (.float .f64 (N (a + e))) ∧ w' = w := by
  have h := fun ts t w => run_maxN ts t a e ha he w
  go_enter Tryz.func38, Tryz.ntmps38
  go_wp2
  go_ret
  exact ⟨rfl, rfl⟩
set_option maxHeartbeats 1000000 in
theorem each_any (a b d e : Nat) (ha : a < 1073741824) (hb : b < 1073741824) (hd : d < 1073741824) (he : e < 1073741824) (w : World) :
    Calls Tryz.prog 37 #[.complex .f64 (N a) (N b), .complex .f64 (N (a + d)) (N (b + e)), .func (.func 38) #[] #[]] w (TollRes (a + d) (b + e) w) := by
  go_enter Tryz.func37, Tryz.ntmps37
  go_wp2_with (first | (go_at_call 58; refine (is_two a b (a + d) (b + e) (by omega) (by omega) (by omega) (by omega) _).mono ?_; rintro e w1 ⟨rfl, rfl⟩) | (go_at_call 38; (first | ((with_reducible refine (most1_any a d ha hd _).mono ?_); rintro e w1 ⟨rfl, rfl⟩) | ((with_reducible refine (most1_any b e hb he _).mono ?_); rintro e w1 ⟨rfl, rfl⟩))) | (go_at_call 59; refine (told_any (a + d) (b + e) (by omega) (by omega) _).mono ?_; rintro e w1 ⟨rfl, hb1⟩))
  go_ret2
  exact ⟨rfl, ((Below.refl _ _).alloc (Nat.le_refl _) _).trans (hb1.mono (by simp))⟩
theorem most_any (a b d e : Nat) (ha : a < 1073741824) (hb : b < 1073741824) (hd : d < 1073741824) (he : e < 1073741824) (w : World) :
    Calls Tryz.prog 22 #[.complex .f64 (N a) (N b), .complex .f64 (N (a + d)) (N (b + e))] w (TollRes (a + d) (b + e) w) := by
  go_enter Tryz.func22, Tryz.ntmps22
  go_wp2_with (go_at_call 37; refine (each_any a b d e ha hb hd he _).mono ?_; rintro e w1 ⟨rfl, hb1⟩)
  go_ret2
  exact ⟨rfl, hb1⟩
end Go.Proofs.YthmeffpickejkaaGreat
