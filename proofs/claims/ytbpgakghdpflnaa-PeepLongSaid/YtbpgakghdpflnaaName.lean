/- The name of a number, as the laws of chapter 18 make it; rows of renames over such names. -/
import Derived.Test.YtbpgakghdpflnaaPlain
import Derived.Test.YtbpgakghdpflnaaUtil
namespace Go.Proofs.Ytbpgakghdpflnaa
open Go.RowKit

def digitB (d : Nat) : ByteArray := ⟨#[UInt8.ofNat (48 + d)]⟩
/-- The k lowest digits of i. -/
def digsB (i : Nat) : Nat → ByteArray
  | 0 => ByteArray.empty
  | k + 1 => digitB (i / 10 ^ k % 10) ++ digsB i k
def nameB (i : Nat) : ByteArray := ⟨#[102]⟩ ++ digsB i 4

theorem digit_cut (d : Nat) (h : d < 10) : (⟨#[48, 49, 50, 51, 52, 53, 54, 55, 56, 57]⟩ : ByteArray).extract d (d + 1) = digitB d := by
  rcases (by omega : d = 0 ∨ d = 1 ∨ d = 2 ∨ d = 3 ∨ d = 4 ∨ d = 5 ∨ d = 6 ∨ d = 7 ∨ d = 8 ∨ d = 9) with rfl | rfl | rfl | rfl | rfl | rfl | rfl | rfl | rfl | rfl <;> decide +kernel
theorem nameB_toList (i : Nat) : (nameB i).data.toList = [102, UInt8.ofNat (48 + i / 1000 % 10), UInt8.ofNat (48 + i / 100 % 10), UInt8.ofNat (48 + i / 10 % 10), UInt8.ofNat (48 + i % 10)] := by
  simp [nameB, digsB, digitB]
theorem u8_dig {a b : Nat} (ha : a < 10) (hb : b < 10) (h : UInt8.ofNat (48 + a) = UInt8.ofNat (48 + b)) : a = b := by
  have := congrArg UInt8.toNat h
  simp at this
  omega
theorem nameB_inj {i j : Nat} (hi : i < 10000) (hj : j < 10000) (h : nameB i = nameB j) : i = j := by
  have h1 := congrArg (fun b : ByteArray => b.data.toList) h
  simp only [nameB_toList, List.cons.injEq, and_true, true_and] at h1
  obtain ⟨h1, h2, h3, h4⟩ := h1
  have a1 := u8_dig (by omega) (by omega) h1
  have a2 := u8_dig (by omega) (by omega) h2
  have a3 := u8_dig (by omega) (by omega) h3
  have a4 := u8_dig (by omega) (by omega) h4
  omega

theorem digsB_size (i : Nat) : ∀ k, (digsB i k).size = k
  | 0 => rfl
  | k + 1 => by
    rw [digsB, ByteArray.size_append, digsB_size i k]
    show 1 + k = k + 1
    omega
set_option maxHeartbeats 1000000 in
theorem name_any (i : Nat) (hi : i < 10000) (w : World) : Calls Try.prog 16 #[.int .i64 i] w fun e w' => e = .returned (.string (nameB i)) ∧ Below w.heap.size w w' := by
  go_enter Try.func16, Try.ntmps16
  go_wp2
  go_loop [0, 3, 4] (fun a s k => ∃ j : Nat, j ≤ 4 ∧ k = .int .i64 j ∧ s = .string (digsB i j) ∧ a = .int .i64 (i / 10 ^ j : Nat)) (fun _ _ k => 4 - (intOf k).toNat)
  case atStart => exact ⟨0, by omega, rfl, rfl, by simp⟩
  case round =>
    obtain ⟨j, hj, rfl, rfl, rfl⟩ := hrel
    have hsz : (digsB i j).size ≤ 4 := by rw [digsB_size]; exact hj
    by_cases hlt : j < 4
    · obtain ⟨d, hd⟩ : ∃ d, d = i / 10 ^ j := ⟨_, rfl⟩
      rw [← hd]
      have hd2 : d < 10000 := by rw [hd]; exact Nat.lt_of_le_of_lt (Nat.div_le_self _ _) hi
      have hcut := digit_cut (d % 10) (Nat.mod_lt _ (by omega))
      have hstep : digsB i (j + 1) = digitB (d % 10) ++ digsB i j := by rw [hd]; rfl
      have hnext : i / 10 ^ (j + 1) = d / 10 := by rw [hd, Nat.pow_succ, Nat.div_div_eq_div_mul]
      replace hd := Lib.hid hd
      replace hstep := Lib.hid hstep
      replace hnext := Lib.hid hnext
      replace hcut := Lib.hid hcut
      have hb : ¬ 9223372036854775807 < min (d % 10 + 1) 10 - d % 10 + (digsB i j).size := by omega
      go_wp2
      go_round
      case rel => exact ⟨j + 1, by omega, by go_num, by rw [hcut.out, hstep.out], by rw [hnext.out]; simp⟩
      case measure => simp [intOf]; omega
    · have hni : ¬ (j : Int) < 4 := by omega
      have hj4 : j = 4 := by omega
      have hb : ¬ 9223372036854775807 < 1 + (digsB i j).size := by omega
      have hfin : nameB i = (⟨#[102]⟩ : ByteArray) ++ digsB i j := by rw [hj4]; rfl
      replace hfin := Lib.hid hfin
      replace hj4 := Lib.hid hj4
      go_wp2
      go_ret
      refine ⟨?_, Below.refl _ _⟩
      show Ending.returned (.string ((⟨#[102]⟩ : ByteArray) ++ digsB i j)) = _
      rw [hfin.out]

/-- A rename from one number's name to another's. -/
def ren (i j : Nat) : Ins := ⟨3, nameB i, nameB j, 0, 0⟩
theorem fuse_ren {set : Int} (h1 : (bits .and .i64 set 1 == 0) = false) {a b c : Nat} (ha : a < 10000) (hc : c < 10000) : fuse (ren a b) (ren b c) set = if a = c then some [] else some [ren a c] := by
  unfold fuse rulesL
  by_cases e : a = c
  · subst e
    simp [fusedF, h1, rule1, rule2, rule3, ren]
  · have hne : nameB a ≠ nameB c := fun h => e (nameB_inj ha hc h)
    simp [fusedF, h1, rule1, rule2, ren, hne, e]
theorem fuse_ren6 (a b c d : Nat) : fuse (ren a b) (ren c d) 6 = none := by
  unfold fuse rulesL
  have h1 : (bits .and .i64 6 1 == 0) = true := by decide
  simp [fusedF, h1, rule4, rule5, rule6, rule7, rule8, rule9, rule10, rule11, ren]
/-- A row of renames from a on, by way of the numbers of the list. -/
def renRow : Nat → List Nat → List Ins
  | _, [] => []
  | a, b :: t => ren a b :: renRow b t
theorem renRow_append (a : Nat) : ∀ (l : List Nat) (m : List Nat), renRow a (l ++ m) = renRow a l ++ renRow ((a :: l).getLast (by simp)) m
  | [], m => by simp [renRow]
  | b :: t, m => by
    have := renRow_append b t m
    simp only [List.cons_append, renRow, this]
    simp
theorem renRow_length (a : Nat) : ∀ l, (renRow a l).length = l.length
  | [] => rfl
  | b :: t => by simp [renRow, renRow_length b t]
/-- The first rename takes in those behind it, as long as they do not lead back. -/
theorem look_row {set : Int} (h1 : (bits .and .i64 set 1 == 0) = false) {a : Nat} (ha : a < 10000) : ∀ (l : List Nat) (b : Nat) (rest : List Ins), (∀ c ∈ l, c < 10000 ∧ a ≠ c) →
    lookC set (ren a b :: (renRow b l ++ rest)) 0 = lookC set (ren a ((b :: l).getLast (by simp)) :: rest) 0
  | [], b, rest, _ => by simp [renRow]
  | c :: t, b, rest, h => by
    have hc := h c (List.mem_cons_self ..)
    have hf := fuse_ren (set := set) h1 (b := b) ha hc.1
    rw [if_neg hc.2] at hf
    have e := lookC_some (set := set) (l := ren a b :: (renRow b (c :: t) ++ rest)) (p := 0) (x := ren a b) (y := ren b c) rfl rfl hf
    rw [e]
    have ih := look_row (set := set) h1 ha t c rest (fun d hd => h d (List.mem_cons_of_mem _ hd))
    simp only [List.take_zero, List.nil_append, Nat.zero_add, renRow, List.cons_append, List.drop_succ_cons, List.drop_zero, Nat.zero_sub]
    rw [ih]
    simp
theorem look_back {set : Int} (h1 : (bits .and .i64 set 1 == 0) = false) {a b : Nat} (ha : a < 10000) (rest : List Ins) : lookC set (ren a b :: ren b a :: rest) 0 = lookC set rest 0 := by
  have hf := fuse_ren (set := set) h1 (b := b) ha ha
  rw [if_pos rfl] at hf
  have e := lookC_some (set := set) (l := ren a b :: ren b a :: rest) (p := 0) (x := ren a b) (y := ren b a) rfl rfl hf
  rw [e]
  simp
/-- The renames that a loop upwards makes. -/
def upTo (n : Nat) : List Ins := (List.range n).map fun i => ren i (i + 1)
theorem upTo_succ (n : Nat) : upTo (n + 1) = upTo n ++ [ren n (n + 1)] := by simp [upTo, List.range_succ]
theorem upTo_length (n : Nat) : (upTo n).length = n := by simp [upTo]
theorem renRow_range (a : Nat) : ∀ k, renRow a ((List.range k).map fun i => a + i + 1) = (List.range k).map fun i => ren (a + i) (a + i + 1)
  | 0 => rfl
  | k + 1 => by
    rw [List.range_succ, List.map_append, List.map_append, renRow_append, renRow_range a k]
    congr 1
    have : (a :: (List.range k).map fun i => a + i + 1).getLast (by simp) = a + k := by
      cases k with
      | zero => simp
      | succ k => rw [List.getLast_cons (by simp)]; simp [List.getLast_map, Nat.add_assoc]
    simp [this, renRow]
theorem upTo_row (n : Nat) : upTo n = renRow 0 ((List.range n).map fun i => i + 1) := by
  have := renRow_range 0 n
  simp only [Nat.zero_add] at this
  rw [this, upTo]
theorem upTo_cons (n : Nat) : upTo (n + 1) = ren 0 1 :: renRow 1 ((List.range n).map fun i => i + 2) := by
  rw [upTo_row, List.range_succ_eq_map]
  simp [renRow, Function.comp_def]
theorem up_last (n : Nat) : (1 :: (List.range n).map fun i => i + 2).getLast (by simp) = n + 1 := by
  cases n with
  | zero => rfl
  | succ k => rw [List.getLast_cons (by simp)]; simp [List.getLast_map]
theorem up_look {set : Int} (h1 : (bits .and .i64 set 1 == 0) = false) (n : Nat) (hn : n < 9999) (rest : List Ins) : lookC set (upTo (n + 1) ++ rest) 0 = lookC set (ren 0 (n + 1) :: rest) 0 := by
  rw [upTo_cons]
  have := look_row (set := set) h1 (a := 0) (by omega) ((List.range n).map fun i => i + 2) 1 rest (fun c hc => by
    obtain ⟨i, hi, rfl⟩ := List.mem_map.1 hc
    have := List.mem_range.1 hi
    omega)
  rw [up_last] at this
  exact this
/-- The renames that a loop downwards makes: n to n - 1, .., k + 1 to k. -/
def downTo (n k : Nat) : List Ins := (List.range (n - k)).map fun i => ren (n - i) (n - i - 1)
theorem downTo_succ {n k : Nat} (h : k < n) : downTo n k = downTo n (k + 1) ++ [ren (k + 1) k] := by
  unfold downTo
  have e : n - k = (n - (k + 1)) + 1 := by omega
  rw [e, List.range_succ, List.map_append]
  congr 1
  simp
  rw [show n - (n - (k + 1)) = k + 1 by omega]
  rfl
theorem downTo_length (n k : Nat) : (downTo n k).length = n - k := by simp [downTo]
theorem downTo_self (n : Nat) : downTo n n = [] := by simp [downTo]
/-- There and back: the first takes in all but the last. -/
theorem down_look {set : Int} (h1 : (bits .and .i64 set 1 == 0) = false) (n : Nat) (hn : n < 9999) (rest : List Ins) : ∀ j, j ≤ n → lookC set (ren 0 (j + 1) :: (downTo (j + 1) 0 ++ rest)) 0 = lookC set rest 0 := by
  intro j
  induction j with
  | zero =>
    intro _
    have : downTo (0 + 1) 0 = [ren 1 0] := by rfl
    rw [this]
    exact look_back h1 (by omega) rest
  | succ j ih =>
    intro hj
    have e : downTo (j + 1 + 1) 0 = ren (j + 2) (j + 1) :: downTo (j + 1) 0 := by
      unfold downTo
      rw [show j + 1 + 1 - 0 = (j + 1) + 1 by omega, List.range_succ_eq_map]
      simp only [List.map_cons, List.map_map, Nat.sub_zero]
      congr 1
      refine List.map_congr_left fun i hi => ?_
      have := List.mem_range.1 hi
      simp only [Function.comp]
      rw [show j + 1 + 1 - (i + 1) = j + 1 - i by omega]
    rw [e]
    have hf := fuse_ren (set := set) h1 (a := 0) (b := j + 2) (c := j + 1) (by omega) (by omega)
    rw [if_neg (by omega)] at hf
    have e2 := lookC_some (set := set) (l := ren 0 (j + 1 + 1) :: ((ren (j + 2) (j + 1) :: downTo (j + 1) 0) ++ rest)) (p := 0) (x := ren 0 (j + 2)) (y := ren (j + 2) (j + 1)) rfl rfl hf
    rw [e2]
    simp only [List.take_zero, List.nil_append, Nat.zero_add, List.cons_append, List.drop_succ_cons, List.drop_zero, Nat.zero_sub]
    exact ih (by omega)
theorem ren_no9 (i j : Nat) : (ren i j).op ≠ 9 := by simp [ren]
theorem filt_ren {set : Int} {l : List Ins} (h : ∀ x ∈ l, x.op ≠ 9) : filt set l = l := by
  unfold filt
  rw [List.filter_eq_self]
  intro a ha
  simp [keepSync, h a ha]
/-- PeepLong's two answers. -/
theorem long_one (n : Nat) (h2 : 2 ≤ n) (hn : n ≤ 4096) : peepF 1 (upTo n) = [ren 0 n] := by
  rw [peep_eq]
  simp only [show few 1 = false by decide, Bool.false_eq_true, if_false]
  obtain ⟨k, rfl⟩ : ∃ k, n = k + 1 := ⟨n - 1, by omega⟩
  have := up_look (set := 1) (by decide) k (by omega) []
  rw [List.append_nil] at this
  rw [this]
  exact lookC_end (by simp)
theorem long_six (n : Nat) : peepF 6 (upTo n) = upTo n := by
  rw [peep_eq]
  simp only [show few 6 = false by decide, Bool.false_eq_true, if_false]
  refine look_still _ 0 (Nat.le_refl _) ?_
  intro j x y _ hx hy
  simp only [upTo, List.getElem?_map, Option.map_eq_some_iff] at hx hy
  obtain ⟨a, _, rfl⟩ := hx
  obtain ⟨b, _, rfl⟩ := hy
  exact fuse_ren6 _ _ _ _
/-- PeepBack's two answers. -/
theorem back_even (n : Nat) (h1 : 1 ≤ n) (hn : n ≤ 300) : peepF 9 (upTo n ++ downTo n 0) = [] := by
  obtain ⟨k, rfl⟩ : ∃ k, n = k + 1 := ⟨n - 1, by omega⟩
  rw [peep_eq, filt_ren (by
    intro x hx
    rcases List.mem_append.1 hx with h | h
    · obtain ⟨i, _, rfl⟩ := List.mem_map.1 h; exact ren_no9 _ _
    · obtain ⟨i, _, rfl⟩ := List.mem_map.1 h; exact ren_no9 _ _)]
  have e : lookC 9 (upTo (k + 1) ++ downTo (k + 1) 0) 0 = [] := by
    rw [up_look (by decide) k (by omega)]
    have := down_look (set := 9) (by decide) k (by omega) [] k (Nat.le_refl _)
    rw [List.append_nil] at this
    rw [this]
    exact lookC_end (by simp)
  simp [e, show few 9 = true by decide]
theorem back_odd (n : Nat) (h1 : 1 ≤ n) (hn : n ≤ 300) : peepF 9 (upTo n ++ downTo n 0 ++ [ren 0 1]) = [ren 0 1, syncIns] := by
  obtain ⟨k, rfl⟩ : ∃ k, n = k + 1 := ⟨n - 1, by omega⟩
  rw [peep_eq, filt_ren (by
    intro x hx
    rcases List.mem_append.1 hx with h | h
    · rcases List.mem_append.1 h with h | h
      · obtain ⟨i, _, rfl⟩ := List.mem_map.1 h; exact ren_no9 _ _
      · obtain ⟨i, _, rfl⟩ := List.mem_map.1 h; exact ren_no9 _ _
    · rw [List.mem_singleton.1 h]; exact ren_no9 _ _)]
  have e : lookC 9 (upTo (k + 1) ++ downTo (k + 1) 0 ++ [ren 0 1]) 0 = [ren 0 1] := by
    rw [List.append_assoc, up_look (by decide) k (by omega), down_look (by decide) k (by omega) [ren 0 1] k (Nat.le_refl _)]
    exact lookC_end (by simp)
  simp only [e, show few 9 = true by decide, if_true]
  rfl
end Go.Proofs.Ytbpgakghdpflnaa
