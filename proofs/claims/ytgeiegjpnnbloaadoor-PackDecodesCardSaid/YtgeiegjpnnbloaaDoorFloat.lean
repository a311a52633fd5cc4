/- Whole numbers as floats: sums, comparisons and conversions are exact below 2^53. -/
import Derived.Laws.FloatArith
import Derived.Laws.ComplexArith
namespace Go.Proofs.YtgeiegjpnnbloaaDoor

def rungF (m : Nat) : Nat := if m = 0 then 0 else (m.log2 + 1022) * 2 ^ 52 + m * 2 ^ (52 - m.log2)
theorem log2_lt {m : Nat} (h : m < 2 ^ 53) : m.log2 ≤ 52 := by
  rcases Nat.eq_zero_or_pos m with h0 | h0
  · subst h0; decide
  · have := (Nat.log2_lt (n := m) (k := 53) (by omega)).2 h
    omega
theorem log2_mul_pow (m k : Nat) (h : m ≠ 0) : (m * 2 ^ k).log2 = m.log2 + k := by
  induction k with
  | zero => simp
  | succ k ih =>
    rw [Nat.pow_succ, ← Nat.mul_assoc, Nat.mul_comm _ 2, Nat.log2_two_mul (by have := Nat.two_pow_pos k; exact Nat.mul_ne_zero h (by omega)), ih]; omega
theorem mul_pow_bounds {m : Nat} (h0 : m ≠ 0) (h : m < 2 ^ 53) : 2 ^ 52 ≤ m * 2 ^ (52 - m.log2) ∧ m * 2 ^ (52 - m.log2) < 2 ^ 53 := by
  have hl := log2_lt h
  have h1 := Nat.log2_self_le h0
  have h2 : m < 2 ^ (m.log2 + 1) := Nat.lt_log2_self
  constructor
  · calc 2 ^ 52 = 2 ^ m.log2 * 2 ^ (52 - m.log2) := by rw [← Nat.pow_add]; congr 1; omega
      _ ≤ m * 2 ^ (52 - m.log2) := Nat.mul_le_mul_right _ h1
  · calc m * 2 ^ (52 - m.log2) < 2 ^ (m.log2 + 1) * 2 ^ (52 - m.log2) := Nat.mul_lt_mul_of_pos_right h2 (Nat.two_pow_pos _)
      _ = 2 ^ 53 := by rw [← Nat.pow_add]; congr 1; omega
theorem leastP : Ieee.double.leastPlace = -1074 := by decide
theorem infR : Ieee.double.infRung = 2047 * 2 ^ 52 := by decide
theorem binadeD : Ieee.double.binade = 2 ^ 52 := by decide
theorem signW : Ieee.double.signWeight = 2 ^ 63 := by decide
theorem rungF_lt {m : Nat} (h : m < 2 ^ 53) : rungF m ≤ 1076 * 2 ^ 52 := by
  unfold rungF
  split
  · omega
  · rename_i h0
    have h1 := (mul_pow_bounds h0 h).2
    have h2 := log2_lt h
    have h3 : m.log2 + 1022 ≤ 1074 := by omega
    have h4 : (m.log2 + 1022) * 2 ^ 52 ≤ 1074 * 2 ^ 52 := Nat.mul_le_mul_right _ h3
    have h5 : (2 : Nat) ^ 53 = 2 * 2 ^ 52 := rfl
    have h6 : 1076 * 2 ^ 52 = 1074 * 2 ^ 52 + 2 * 2 ^ 52 := rfl
    rw [h6, ← h5]
    exact Nat.add_le_add h4 (Nat.le_of_lt h1)
theorem cut_exact (neg : Bool) (x d : Nat) (hd : d ≤ (x * 2 ^ d).log2 + 2) (way : Ieee.Toward) : way.cut neg (x * 2 ^ d) d = x := by
  have h1 : min d ((x * 2 ^ d).log2 + 2) = d := Nat.min_eq_left hd
  unfold Ieee.Toward.cut
  simp only [h1, Nat.shiftLeft_eq, Nat.one_mul, Nat.mul_mod_left, Nat.mul_div_cancel _ (Nat.two_pow_pos d)]
  cases way <;> simp
theorem nearestF (neg : Bool) {m k : Nat} (h : m < 2 ^ 53) : Ieee.double.nearest neg (m * 2 ^ k) (-(k : Int)) = Ieee.double.word neg (rungF m) := by
  by_cases h0 : m = 0
  · subst h0; simp [Ieee.Format.nearest, rungF]
  · have hne : m * 2 ^ k ≠ 0 := Nat.mul_ne_zero h0 (by have := Nat.two_pow_pos k; omega)
    have hl := log2_lt h
    have hlog := log2_mul_pow m k h0
    have hF : ((Ieee.double.fractionBits : Nat) : Int) = 52 := rfl
    have hlast : max (-(k : Int) + ((m * 2 ^ k).log2 : Nat) - (Ieee.double.fractionBits : Nat)) Ieee.double.leastPlace = (m.log2 : Int) - 52 := by
      rw [leastP, hlog, hF]; omega
    have hbd := mul_pow_bounds h0 h
    have hr := rungF_lt h
    unfold Ieee.Format.nearest
    rw [if_neg hne]
    simp only [hlast]
    have hkept : Ieee.Toward.even.cut neg ((m * 2 ^ k) <<< (-(k : Int) - ((m.log2 : Int) - 52)).toNat) ((m.log2 : Int) - 52 - -(k : Int)).toNat = m * 2 ^ (52 - m.log2) := by
      rw [Nat.shiftLeft_eq]
      by_cases hc : k + m.log2 ≤ 52
      · have e1 : (-(k : Int) - ((m.log2 : Int) - 52)).toNat = 52 - m.log2 - k := by omega
        have e2 : ((m.log2 : Int) - 52 - -(k : Int)).toNat = 0 := by omega
        have e3 : m * 2 ^ k * 2 ^ (52 - m.log2 - k) = m * 2 ^ (52 - m.log2) * 2 ^ 0 := by
          rw [Nat.mul_assoc, ← Nat.pow_add, Nat.pow_zero, Nat.mul_one]; congr 2; omega
        rw [e1, e2, e3]
        exact cut_exact _ _ 0 (by omega) _
      · have e1 : (-(k : Int) - ((m.log2 : Int) - 52)).toNat = 0 := by omega
        have e2 : ((m.log2 : Int) - 52 - -(k : Int)).toNat = k + m.log2 - 52 := by omega
        have e3 : m * 2 ^ k * 2 ^ 0 = m * 2 ^ (52 - m.log2) * 2 ^ (k + m.log2 - 52) := by
          rw [Nat.pow_zero, Nat.mul_one, Nat.mul_assoc, ← Nat.pow_add]; congr 2; omega
        rw [e1, e2, e3]
        refine cut_exact _ _ _ ?_ _
        rw [← e3, Nat.pow_zero, Nat.mul_one, hlog]; omega
    rw [hkept]
    have e4 : ((m.log2 : Int) - 52 - Ieee.double.leastPlace).toNat = m.log2 + 1022 := by rw [leastP]; omega
    have e5 : (m.log2 + 1022) * Ieee.double.binade + m * 2 ^ (52 - m.log2) = rungF m := by rw [binadeD, rungF, if_neg h0]
    rw [e4, e5, infR, Nat.min_eq_left (by omega)]
theorem readF (neg : Bool) {m : Nat} (h : m < 2 ^ 53) : ∃ k : Nat, k ≤ 1074 ∧ Ieee.double.read (Ieee.double.word neg (rungF m)) = .number neg (m * 2 ^ k) (-(k : Int)) := by
  have hr := rungF_lt h
  have hm : Ieee.double.word neg (rungF m) % 2 ^ 63 = rungF m := by
    unfold Ieee.Format.word
    rw [signW]
    cases neg <;> simp <;> omega
  have hd : (Ieee.double.word neg (rungF m) / 2 ^ 63 % 2 == 1) = neg := by
    unfold Ieee.Format.word
    rw [signW]
    cases neg
    · simp; omega
    · have : (2 ^ 63 + rungF m) / 2 ^ 63 = 1 := by omega
      simp [this]
  unfold Ieee.Format.read
  rw [signW, hm, hd, binadeD, infR, leastP]
  by_cases h0 : m = 0
  · subst h0
    obtain ⟨k, hk⟩ : ∃ k : Nat, (k : Int) = 1074 := ⟨_, rfl⟩
    exact ⟨k, by omega, by rw [Nat.zero_mul, rungF, if_pos rfl, if_pos (Nat.two_pow_pos _), hk]⟩
  · have hbd := mul_pow_bounds h0 h
    have hl := log2_lt h
    obtain ⟨x, hx⟩ : ∃ x, m * 2 ^ (52 - m.log2) = x := ⟨_, rfl⟩
    rw [hx] at hbd
    have hrf : rungF m = (m.log2 + 1022) * 2 ^ 52 + x := by rw [rungF, if_neg h0, hx]
    obtain ⟨B, hB⟩ : ∃ B, (2 : Nat) ^ 52 = B := ⟨_, rfl⟩
    have hB0 : 0 < B := by rw [← hB]; exact Nat.two_pow_pos _
    have h53 : (2 : Nat) ^ 53 = 2 * B := by rw [← hB]
    rw [h53, hB] at hbd
    rw [hB] at hrf hr ⊢
    obtain ⟨y, rfl⟩ : ∃ y, x = B + y := ⟨x - B, by omega⟩
    have hbd2 : y < B := by omega
    have hrf' : rungF m = y + (m.log2 + 1023) * B := by
      have : (m.log2 + 1023) * B = (m.log2 + 1022) * B + B := Nat.succ_mul _ _
      rw [hrf, this]; omega
    have hle : (m.log2 + 1023) * B ≥ 1 * B := Nat.mul_le_mul_right _ (by omega)
    have e1 : ¬ rungF m < B := by omega
    have e2 : rungF m < 2047 * B := by omega
    have e3 : rungF m / B = m.log2 + 1023 := by rw [hrf', Nat.add_mul_div_right _ _ hB0, Nat.div_eq_of_lt hbd2, Nat.zero_add]
    have e4 : B + rungF m % B = B + y := by rw [hrf', Nat.add_mul_mod_self_right, Nat.mod_eq_of_lt hbd2]
    refine ⟨52 - m.log2, by omega, ?_⟩
    have e5 : (-1074 + ((m.log2 + 1023 - 1 : Nat) : Int)) = -((52 - m.log2 : Nat) : Int) := by omega
    simp only [if_neg e1, if_pos e2, e3, e4, e5, hx]
/-- The bits of a whole number. -/
def F (n : Int) : Nat := floatOfInt .f64 n
theorem F_eq {n : Int} (h : n.natAbs < 2 ^ 53) : F n = Ieee.double.word (decide (n < 0)) (rungF n.natAbs) := by
  have := nearestF (decide (n < 0)) (m := n.natAbs) (k := 0) h
  simpa [F, floatOfInt, FloatKind.nearest, FloatKind.encode, FloatKind.format, Ieee.Format.write] using this
theorem F_read {n : Int} (h : n.natAbs < 2 ^ 53) : ∃ k : Nat, k ≤ 1074 ∧ Ieee.double.read (F n) = .number (decide (n < 0)) (n.natAbs * 2 ^ k) (-(k : Int)) := by
  rw [F_eq h]
  exact readF _ h
theorem F_write {n : Int} {k : Nat} (h : n.natAbs < 2 ^ 53) : Ieee.double.write (.number (decide (n < 0)) (n.natAbs * 2 ^ k) (-(k : Int))) = F n := by
  rw [F_eq h]
  exact nearestF _ h
theorem signedF (n : Int) (k up K : Nat) (h : k + up = K) : Ieee.signed (decide (n < 0)) (n.natAbs * 2 ^ k) up = n * 2 ^ K := by
  subst h
  unfold Ieee.signed
  have e : ((n.natAbs * 2 ^ k) <<< up : Nat) = n.natAbs * 2 ^ (k + up) := by rw [Nat.shiftLeft_eq, Nat.mul_assoc, ← Nat.pow_add]
  rw [e]
  by_cases hn : n < 0
  · rw [decide_eq_true hn, if_pos rfl]
    have : n = -(n.natAbs : Int) := by omega
    conv => rhs; rw [this]
    simp [Int.neg_mul]
  · rw [decide_eq_false hn, if_neg (by simp)]
    have : n = (n.natAbs : Int) := by omega
    rw [this]
    simp
theorem F_add {a b : Int} (ha : a.natAbs < 2 ^ 52) (hb : b.natAbs < 2 ^ 52) : floatBits .add .f64 (F a) (F b) = some (F (a + b)) := by
  obtain ⟨i, hi, ea⟩ := F_read (n := a) (by omega)
  obtain ⟨j, hj, eb⟩ := F_read (n := b) (by omega)
  obtain ⟨K, hK⟩ : ∃ K, K = max i j := ⟨_, rfl⟩
  have e1 : min (-(i : Int)) (-(j : Int)) = -(K : Int) := by omega
  have e2 : i + (-(i : Int) - -(K : Int)).toNat = K := by omega
  have e3 : j + (-(j : Int) - -(K : Int)).toNat = K := by omega
  have hp : (0 : Int) < 2 ^ K := by exact_mod_cast Nat.two_pow_pos K
  have hs : a * 2 ^ K + b * 2 ^ K = (a + b) * 2 ^ K := (Int.add_mul _ _ _).symm
  have hsgn : (if (a + b) * 2 ^ K = 0 then (decide (a < 0) && decide (b < 0)) else decide ((a + b) * 2 ^ K < 0)) = decide (a + b < 0) := by
    by_cases h0 : a + b = 0
    · rw [h0]
      simp only [Int.zero_mul, if_true]
      have : ¬ (a < 0 ∧ b < 0) := by omega
      simpa using this
    · have hne : (a + b) * 2 ^ K ≠ 0 := Int.mul_ne_zero h0 (Int.ne_of_gt hp)
      rw [if_neg hne]
      by_cases hn : a + b < 0
      · have : (a + b) * 2 ^ K < 0 := Int.mul_neg_of_neg_of_pos hn hp
        simp [hn, this]
      · have : ¬ (a + b) * 2 ^ K < 0 := by have := Int.mul_nonneg (a := a + b) (b := 2 ^ K) (by omega) (Int.le_of_lt hp); omega
        simp [hn, this]
  have hab : ((a + b) * 2 ^ K).natAbs = (a + b).natAbs * 2 ^ K := by rw [Int.natAbs_mul]; congr 1
  show Ieee.double.add (F a) (F b) = _
  unfold Ieee.Format.add
  rw [ea, eb]
  simp only [Ieee.Datum.sum, e1, signedF _ _ _ _ e2, signedF _ _ _ _ e3, hs, hsgn, hab, Option.map_some]
  rw [F_write (by omega)]
theorem F_order {a b : Int} (ha : a.natAbs < 2 ^ 53) (hb : b.natAbs < 2 ^ 53) : FloatKind.f64.format.order (F a) (F b) = some (compare a b) := by
  obtain ⟨i, hi, ea⟩ := F_read (n := a) ha
  obtain ⟨j, hj, eb⟩ := F_read (n := b) hb
  obtain ⟨K, hK⟩ : ∃ K, K = max i j := ⟨_, rfl⟩
  have e1 : min (-(i : Int)) (-(j : Int)) = -(K : Int) := by omega
  have e2 : i + (-(i : Int) - -(K : Int)).toNat = K := by omega
  have e3 : j + (-(j : Int) - -(K : Int)).toNat = K := by omega
  have hp : (0 : Int) < 2 ^ K := by exact_mod_cast Nat.two_pow_pos K
  show Ieee.double.order (F a) (F b) = _
  unfold Ieee.Format.order
  rw [ea, eb]
  simp only [Ieee.Datum.order, e1, signedF _ _ _ _ e2, signedF _ _ _ _ e3]
  have key : ∀ x y : Int, compare x y = if x < y then .lt else if x = y then .eq else .gt := fun x y => rfl
  congr 1
  rw [key, key]
  rcases Int.lt_trichotomy a b with h | h | h
  · rw [if_pos h, if_pos (Int.mul_lt_mul_of_pos_right h hp)]
  · subst h; simp
  · have h2 := Int.mul_lt_mul_of_pos_right h hp
    rw [if_neg (by omega), if_neg (by omega), if_neg (by omega), if_neg (by omega)]
theorem F_int {a : Int} (ha : a.natAbs < 2 ^ 53) : floatToIntVal .f64 (F a) .i64 = some a := by
  obtain ⟨k, hk, ea⟩ := F_read (n := a) ha
  have h1 : IntKind.i64.min = -9223372036854775808 := by decide
  have h2 : IntKind.i64.max = 9223372036854775807 := by decide
  have e1 : (-(k : Int)).toNat = 0 := by omega
  have e2 : (- -(k : Int)).toNat = k := by omega
  have hc : Ieee.Toward.zero.cut (decide (a < 0)) (a.natAbs * 2 ^ k) k = a.natAbs := by
    by_cases h0 : a.natAbs = 0
    · rw [h0]; simp [Ieee.Toward.cut]
    · exact cut_exact _ _ _ (by rw [log2_mul_pow _ _ h0]; omega) _
  have hd : (FloatKind.f64.decode (F a)).toInt .zero = some a := by
    show (Ieee.double.read (F a)).toInt .zero = _
    rw [ea]
    simp only [Ieee.Datum.toInt, Ieee.Datum.integral, e1, e2, Nat.shiftLeft_zero, hc]
    have := signedF a 0 0 0 rfl
    simpa using this
  unfold floatToIntVal
  rw [hd]
  simp only [h1, h2]
  rw [if_pos (by omega)]
end Go.Proofs.YtgeiegjpnnbloaaDoor
