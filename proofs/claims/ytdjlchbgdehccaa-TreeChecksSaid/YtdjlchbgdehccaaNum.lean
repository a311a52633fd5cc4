/- Small whole numbers as floats: sums, comparisons, conversions are exact; package toll on them. -/
import Derived.Test.YtdjlchbgdehccaaKit
import Derived.Test.YtdjlchbgdehccaaFloat
namespace Go.Proofs.Ytdjlchbgdehccaa
open Go.RowKit

/-- The bits of a whole number. -/
def N (n : Nat) : Nat := F n
theorem N_add (a : Nat) (ha : a < 1073741824) (b : Nat) (hb : b < 1073741824) : floatBits .add .f64 (N a) (N b) = some (N (a + b)) := by
  have h := F_add (a := a) (b := b) (by omega) (by omega)
  rwa [← Int.natCast_add] at h
theorem F_lo : F (-1099511627776) = 14010698440749613056 := by decide +kernel
theorem F_hi : F 1099511627776 = 4787326403894837248 := by decide +kernel
theorem N_order (a b : Nat) (ha : a < 8589934592) (hb : b < 8589934592) : FloatKind.f64.format.order (N a) (N b) = some (compare (a : Int) b) := F_order (by omega) (by omega)
theorem N_ge (a : Nat) (ha : a < 4294967296) : (FloatKind.f64.format.order (N a) 14010698440749613056 == some .gt) = true := by
  rw [← F_lo, N, F_order (by omega) (by omega)]
  have key : ∀ x y : Int, compare x y = if x < y then .lt else if x = y then .eq else .gt := fun x y => rfl
  rw [key, if_neg (by omega), if_neg (by omega)]; rfl
theorem N_le (a : Nat) (ha : a < 4294967296) : (FloatKind.f64.format.order (N a) 4787326403894837248 == some .lt) = true := by
  rw [← F_hi, N, F_order (by omega) (by omega)]
  have key : ∀ x y : Int, compare x y = if x < y then .lt else if x = y then .eq else .gt := fun x y => rfl
  rw [key, if_pos (by omega)]; rfl
theorem N_int (a : Nat) (ha : a < 4294967296) : floatToIntVal .f64 (N a) .i64 = some (a : Int) := F_int (by omega)
theorem N_eq (a : Nat) (ha : a < 4294967296) : (FloatKind.f64.format.order (N a) (N a) == some .eq) = true := by
  rw [N_order a a (by omega) (by omega)]; simp
theorem F_zero : F 0 = 0 := by decide +kernel
theorem N_plus0 (a : Nat) (ha : a < 4294967296) : floatBits .add .f64 (N a) 0 = some (N a) := by
  have h := F_add (a := a) (b := 0) (by omega) (by omega)
  rwa [Int.add_zero, F_zero] at h

theorem whole_any (a : Nat) (ha : a < 4294967296) (w : World) : Calls Try.prog 104 #[.float .f64 (N a)] w fun e w' => e = .returned (.bool true) ∧ w' = w := by
  have h1 := N_ge a ha
  have h2 := N_le a ha
  have h3 := fun w => run_convert_float_int (P := Try.prog) w 36 3 .f64 .i64 (N a) a (by kernel_rfl) Try.underlying3 (N_int a ha)
  have h4 : (FloatKind.f64.format.order (N a) (floatOfInt .f64 (a : Int)) == some .eq) = true := N_eq a ha
  go_enter Try.func104, Try.ntmps104
  go_wp2
  go_ret
  exact ⟨rfl, rfl⟩
/-- Tolls as cells. -/
def tollC (x : Nat × Nat) : List Value := [.complex .f64 (N x.1) (N x.2)]
theorem tollC_len (x : Nat × Nat) : (tollC x).length = 1 := rfl
set_option maxHeartbeats 1000000 in
theorem is_any (xs : List (Nat × Nat)) (hx : ∀ x ∈ xs, x.1 < 4294967296 ∧ x.2 < 4294967296) (A : Option Addr) (n c : Nat) (w : World) (hS : Sl w w.heap.size 1 A n (xs.flatMap tollC)) (hn : xs.length = n) (hm : n ≤ 4611686018427387904) :
    Calls Try.prog 96 #[.slice A n c] w fun e w' => e = .returned (.bool true) ∧ w' = w := by
  have HS := Lib.hid hS; clear hS
  have Hn := Lib.hid hn; clear hn
  have Hx := Lib.hid hx; clear hx
  go_enter Try.func96, Try.ntmps96
  go_wp2
  go_loop [7] (fun i => ∃ k : Nat, k ≤ n ∧ i = .int .i64 k) (fun i => n - (intOf i).toNat)
  case atStart => exact ⟨0, Nat.zero_le _, rfl⟩
  case round =>
    obtain ⟨k, hk, rfl⟩ := hrel
    by_cases hlt : k < n
    · have hki : (k : Int) < n := by omega
      obtain ⟨b, o, x, rfl, hbl, hx, hc⟩ := HS.out.get tollC_len Hn.out hlt
      have c0 := hc 0 _ rfl
      simp only [Nat.mul_one, Nat.add_zero] at c0
      clear hc
      have hxm := Hx.out x (List.mem_of_getElem? hx)
      clear hx
      go_wp2_with (go_at_call 104; (first | ((with_reducible refine (whole_any x.1 hxm.1 _).mono ?_); rintro e w1 ⟨rfl, rfl⟩) | ((with_reducible refine (whole_any x.2 hxm.2 _).mono ?_); rintro e w1 ⟨rfl, rfl⟩)))
      go_round
      case rel => exact ⟨k + 1, by omega, by go_num⟩
      case measure => simp [intOf]; omega
    · obtain rfl : k = n := by omega
      go_wp2
      go_ret
      exact ⟨rfl, rfl⟩
theorem Sl.toll1 (w : World) (x : Nat × Nat) : Sl (w.alloc (.cells #[.complex .f64 (N x.1) (N x.2)] 32)) (w.alloc (.cells #[.complex .f64 (N x.1) (N x.2)] 32)).heap.size 1 (some ⟨w.heap.size, 0, none⟩) 1 ([x].flatMap tollC) :=
  ⟨rfl, fun _ => ⟨w.heap.size, 0, rfl, by simp, fun i v hi => by rw [Nat.zero_add, (Blk.new w _ _).cell i]; simpa [tollC] using hi⟩⟩
theorem Sl.toll2 (w : World) (x y : Nat × Nat) : Sl (w.alloc (.cells #[.complex .f64 (N x.1) (N x.2), .complex .f64 (N y.1) (N y.2)] 32)) (w.alloc (.cells #[.complex .f64 (N x.1) (N x.2), .complex .f64 (N y.1) (N y.2)] 32)).heap.size 1 (some ⟨w.heap.size, 0, none⟩) 2 ([x, y].flatMap tollC) :=
  ⟨rfl, fun _ => ⟨w.heap.size, 0, rfl, by simp, fun i v hi => by rw [Nat.zero_add, (Blk.new w _ _).cell i]; simpa [tollC] using hi⟩⟩
/-- is, of one toll, and of two. -/
theorem is_one (a b : Nat) (ha : a < 4294967296) (hb : b < 4294967296) (w : World) : Calls Try.prog 96 #[.slice (some ⟨w.heap.size, 0, none⟩) 1 1] (w.alloc (.cells #[.complex .f64 (N a) (N b)] 32)) fun e w' => e = .returned (.bool true) ∧ w' = w.alloc (.cells #[.complex .f64 (N a) (N b)] 32) :=
  is_any [(a, b)] (fun x hx => by rw [List.mem_singleton.1 hx]; exact ⟨ha, hb⟩) _ _ _ _ (Sl.toll1 w (a, b)) rfl (by omega)
theorem is_two (a b c d : Nat) (ha : a < 4294967296) (hb : b < 4294967296) (hc : c < 4294967296) (hd : d < 4294967296) (w : World) : Calls Try.prog 96 #[.slice (some ⟨w.heap.size, 0, none⟩) 2 2] (w.alloc (.cells #[.complex .f64 (N a) (N b), .complex .f64 (N c) (N d)] 32)) fun e w' => e = .returned (.bool true) ∧ w' = w.alloc (.cells #[.complex .f64 (N a) (N b), .complex .f64 (N c) (N d)] 32) :=
  is_any [(a, b), (c, d)] (fun x hx => by
    rcases List.mem_cons.1 hx with h | h
    · rw [h]; exact ⟨ha, hb⟩
    · rw [List.mem_singleton.1 h]; exact ⟨hc, hd⟩) _ _ _ _ (Sl.toll2 w (a, b) (c, d)) rfl (by omega)
/-- What a call that hands back a toll comes to. -/
def TollRes (a b : Nat) (w : World) (e : Ending) (w' : World) : Prop := e = .returned (.tuple #[.complex .f64 (N a) (N b), .int .i64 0]) ∧ Below w.heap.size w w'
set_option maxHeartbeats 1000000 in
theorem told_any (a b : Nat) (ha : a < 4294967296) (hb : b < 4294967296) (w : World) : Calls Try.prog 80 #[.complex .f64 (N a) (N b)] w (TollRes a b w) := by
  have h1 := fun w => run_float_arith (P := Try.prog) w .add 36 .f64 (N a) 0 (N a) (N_plus0 a ha)
  have h2 := fun w => run_float_arith (P := Try.prog) w .add 36 .f64 (N b) 0 (N b) (N_plus0 b hb)
  go_enter Try.func80, Try.ntmps80
  go_wp2_with (go_at_call 96; refine (is_one a b ha hb _).mono ?_; rintro e w1 ⟨rfl, rfl⟩)
  go_ret2
  exact ⟨rfl, (Below.refl _ _).alloc (Nat.le_refl _) _⟩
theorem N_lt (a : Nat) (ha : a < 1073741824) (e : Nat) (he : e < 1073741824) (h : 0 < e) : FloatKind.f64.format.order (N a) (N (a + e)) = some .lt := by
  rw [N_order a (a + e) (by omega) (by omega)]
  have key : ∀ x y : Int, compare x y = if x < y then .lt else if x = y then .eq else .gt := fun x y => rfl
  rw [key, if_pos (by omega)]
theorem run_maxN (ts : Array TypeId) (t : TypeId) (a e : Nat) (ha : a < 1073741824) (he : e < 1073741824) (w : World) : (Builtin.max_ ts t #[.float .f64 (N a), .float .f64 (N (a + e))]).run Try.prog w = .ok (.float .f64 (N (a + e))) w := by
  rcases Nat.eq_zero_or_pos e with h | h
  · subst h
    have := N_eq a (by omega)
    have h2 : FloatKind.f64.format.order (N a) (N a) = some .eq := by simpa using this
    simp [Builtin.max_, Builtin.max2, h2]
  · have h2 := N_lt a ha e he h
    simp [Builtin.max_, Builtin.max2, h2]
theorem most1_any (a e : Nat) (ha : a < 1073741824) (he : e < 1073741824) (w : World) : Calls Try.prog 106 #[.float .f64 (N a), .float .f64 (N (a + e))] w fun r w' => r = .returned (.float .f64 (N (a + e))) ∧ w' = w := by
  have h := fun ts t w => run_maxN ts t a e ha he w
  go_enter Try.func106, Try.ntmps106
  go_wp2
  go_ret
  exact ⟨rfl, rfl⟩
set_option maxHeartbeats 1000000 in
theorem each_any (a b d e : Nat) (ha : a < 1073741824) (hb : b < 1073741824) (hd : d < 1073741824) (he : e < 1073741824) (w : World) :
    Calls Try.prog 105 #[.complex .f64 (N a) (N b), .complex .f64 (N (a + d)) (N (b + e)), .func (.func 106) #[] #[]] w (TollRes (a + d) (b + e) w) := by
  go_enter Try.func105, Try.ntmps105
  go_wp2_with (first | (go_at_call 96; refine (is_two a b (a + d) (b + e) (by omega) (by omega) (by omega) (by omega) _).mono ?_; rintro e w1 ⟨rfl, rfl⟩) | (go_at_call 106; (first | ((with_reducible refine (most1_any a d ha hd _).mono ?_); rintro e w1 ⟨rfl, rfl⟩) | ((with_reducible refine (most1_any b e hb he _).mono ?_); rintro e w1 ⟨rfl, rfl⟩))) | (go_at_call 80; refine (told_any (a + d) (b + e) (by omega) (by omega) _).mono ?_; rintro e w1 ⟨rfl, hb1⟩))
  go_ret2
  exact ⟨rfl, ((Below.refl _ _).alloc (Nat.le_refl _) _).trans (hb1.mono (by simp))⟩
theorem most_any (a b d e : Nat) (ha : a < 1073741824) (hb : b < 1073741824) (hd : d < 1073741824) (he : e < 1073741824) (w : World) :
    Calls Try.prog 97 #[.complex .f64 (N a) (N b), .complex .f64 (N (a + d)) (N (b + e))] w (TollRes (a + d) (b + e) w) := by
  go_enter Try.func97, Try.ntmps97
  go_wp2_with (go_at_call 105; refine (each_any a b d e ha hb hd he _).mono ?_; rintro e w1 ⟨rfl, hb1⟩)
  go_ret2
  exact ⟨rfl, hb1⟩
end Go.Proofs.Ytdjlchbgdehccaa
