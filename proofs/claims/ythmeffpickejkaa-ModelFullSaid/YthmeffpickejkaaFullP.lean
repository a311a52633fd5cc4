/- The tree of ModelFull, plain: n files f000, f001, ..; what Do says to it. -/
import Derived.Test.YthmeffpickejkaaLaw7
import Derived.Test.YthmeffpickejkaaConv
namespace Go.Proofs.Ythmeffpickejkaa
open Go.RowKit

/-- The name of a number. -/
def fB (i : Nat) : ByteArray := ⟨#[102, UInt8.ofNat (48 + i / 100), UInt8.ofNat (48 + i / 10 % 10), UInt8.ofNat (48 + i % 10)]⟩
theorem fB_size (i : Nat) : (fB i).size = 4 := rfl
def fN (i : Nat) : Node := ⟨fB i, i, 0, by rw [fB_size]; decide⟩
def fTo (n : Nat) : List Node := (List.range n).map fN
theorem fTo_succ (n : Nat) : fTo (n + 1) = fTo n ++ [fN n] := by simp [fTo, List.range_succ]
theorem fTo_length (n : Nat) : (fTo n).length = n := by simp [fTo]
def fF : FC := ⟨384, none, 0, 0⟩
def fTV (A : Option Addr) (c : Nat) (FA : Option Addr) (fc n : Nat) : TV := ⟨fTo n, List.replicate n fF, A, n, c, FA, n, fc⟩
theorem f_valid : ∀ k < 257, validL (fB k).data.toList = true := by decide +kernel
theorem f_parent : ∀ k < 257, (parentB (fB k)).data.toList = [] := by decide +kernel
theorem f_lt1 : ∀ k < 257, (fB k).data.toList < (fB (k + 1)).data.toList := by decide +kernel
theorem f_lt : ∀ d k, k + d < 257 → (fB k).data.toList < (fB (k + d + 1)).data.toList
  | 0, k, h => f_lt1 k h
  | d + 1, k, h => List.lt_trans (f_lt d k (by omega)) (f_lt1 (k + d + 1) (by omega))
theorem f_rises {n : Nat} (hn : n ≤ 256) : Rises (fTo n) := by
  unfold Rises
  rw [List.pairwise_iff_getElem]
  intro i j hi hj hij
  rw [fTo_length] at hi hj
  simp only [fTo, List.getElem_map, List.getElem_range]
  obtain ⟨d, rfl⟩ : ∃ d, j = i + d + 1 := ⟨j - i - 1, by omega⟩
  exact f_lt d i (by omega)
theorem f_num : ∀ (m k : Nat), numRun ((List.range' k m).map fN) k = some ((k + m : Nat) : Int)
  | 0, k => rfl
  | m + 1, k => by
    rw [List.range'_succ, List.map_cons, numRun, if_neg (by show ¬ (k : Int) = -1; omega), if_neg (by show ¬ ((k : Int) < 0 ∨ (k : Int) < k); omega), if_pos (show (fN k).file = (k : Int) from rfl)]
    have h := f_num m (k + 1)
    rw [show k + 1 + m = k + (m + 1) by omega] at h
    exact h
theorem f_loose {A : Option Addr} {c : Nat} {FA : Option Addr} {fc n : Nat} (hn : n ≤ 256) : looseE (fTV A c FA fc n) = 0 := by
  have hm : ∀ x ∈ fTo n, ∃ i, i < n ∧ x = fN i := fun x hx => by
    obtain ⟨i, hi, rfl⟩ := List.mem_map.1 hx
    exact ⟨i, List.mem_range.1 hi, rfl⟩
  refine loose_of_P ⟨⟨hn, hn, fun x hx => ?_, f_rises hn, fun x hx => ?_, fun x hx => ?_, fun x hx => ?_, fun f h0 h1 => ?_, fun x hx => ?_⟩, ?_⟩
  · rw [List.eq_of_mem_replicate hx]; decide
  · obtain ⟨i, hi, rfl⟩ := hm x hx; exact f_valid i (by omega)
  · obtain ⟨i, hi, rfl⟩ := hm x hx; exact .inl (f_parent i (by omega))
  · obtain ⟨i, hi, rfl⟩ := hm x hx; exact .inr ⟨Int.natCast_nonneg i, by show (i : Int) < n; omega, rfl⟩
  · exact ⟨fN f.toNat, List.mem_map.2 ⟨f.toNat, List.mem_range.2 (by have : f < (n : Int) := h1; omega), rfl⟩, by show (f.toNat : Int) = f; omega⟩
  · rw [List.eq_of_mem_replicate hx]; rfl
  · show numRun (fTo n) 0 = _
    have h := f_num n 0
    rw [Nat.zero_add] at h
    rw [fTo, List.range_eq_range']; exact h
def pa : ByteArray := ⟨#[97]⟩
theorem look_a (l : List Node) : lookE l pa = 0 := by simp [lookE, lookGo, pa, ByteArray.size]
theorem look_f0 (l : List Node) : lookE l (fB 0) = 0 := by simp [lookE, lookGo, fB, ByteArray.size]
theorem look_f1 (l : List Node) : lookE l (fB 1) = 0 := by simp [lookE, lookGo, fB, ByteArray.size]
theorem look_f2 (l : List Node) : lookE l (fB 2) = 0 := by simp [lookE, lookGo, fB, ByteArray.size]
theorem at_a (n : Nat) : nodeAt (fTo n) pa = none := nodeAt_none.2 fun x hx e => by
  obtain ⟨i, _, rfl⟩ := List.mem_map.1 hx
  have := congrArg ByteArray.size e
  exact absurd this (by show ¬ (4 : Nat) = 1; decide)
theorem at_f {n i : Nat} (hn : n ≤ 256) (hi : i < n) : nodeAt (fTo n) (fB i) = some (fN i) := nodeAt_mem (apart_of_rises (f_rises hn)) (x := fN i) (List.mem_map.2 ⟨i, List.mem_range.2 hi, rfl⟩)
theorem abs_a (n : Nat) : absE (fTo n) pa = 0 := by simp [absE, look_a, lookT, at_a]
theorem pre_f {n i : Nat} (hn : n ≤ 256) (hi : i < n) (h : lookE (fTo n) (fB i) = 0) : preE (fTo n) (fB i) = 0 := by simp [preE, h, lookT, at_f hn hi]
theorem lookF_f {n i : Nat} (hn : n ≤ 256) (hi : i < n) (h : lookE (fTo n) (fB i) = 0) : lookF (fTo n) (fB i) = i := by simp [lookF, h, at_f hn hi, fN]
theorem fil_f {n i : Nat} (hn : n ≤ 256) (hi : i < n) (h : lookE (fTo n) (fB i) = 0) : filE (fTo n) (fB i) = 0 := by
  rw [filE, if_neg ?_, pre_f hn hi h]
  rw [lookF_f hn hi h]; omega
def cA : Cmd := ⟨1, pa, ByteArray.empty, 0, 0, by decide, by decide⟩
def cB : Cmd := ⟨4, fB 0, pa, 0, 0, by decide, by decide⟩
def cC : Cmd := ⟨6, pa, ByteArray.empty, 0, 0, by decide, by decide⟩
def cD : Cmd := ⟨7, fB 0, pa, 0, 0, by decide, by decide⟩
def cE : Cmd := ⟨3, fB 0, pa, 0, 0, by decide, by decide⟩
def cF : Cmd := ⟨5, fB 1, ByteArray.empty, 0, 0, by decide, by decide⟩
def cG : Cmd := ⟨8, fB 2, ByteArray.empty, 1, 0, by decide, by decide⟩
theorem fst_A : firstE (toB 1) (modeB 1) cA [ByteArray.empty] = 0 := by decide +kernel
theorem fst_B : firstE (toB 4) (modeB 4) cB [ByteArray.empty] = 0 := by decide +kernel
theorem fst_C : firstE (toB 6) (modeB 6) cC [ByteArray.empty] = 0 := by decide +kernel
theorem fst_D : firstE (toB 7) (modeB 7) cD [ByteArray.empty] = 0 := by decide +kernel
theorem fst_E : firstE (toB 3) (modeB 3) cE [] = 0 := by decide +kernel
theorem fst_F : firstE (toB 5) (modeB 5) cF [] = 0 := by decide +kernel
theorem fst_G : firstE (toB 8) (modeB 8) cG [] = 0 := by decide +kernel
section
variable {M : PW} {n : Nat}
theorem grow_E {op : Int} {c : Cmd} {sd : List ByteArray} (ho : c.op = op) (hi : isOp op = true) (h9 : op ≠ 9) (hf : firstE (toB op) (modeB op) c sd = 0) (hg : growB op = true) (h1 : fullE M c = 31) (h2 : opE M c = 0) : doE M c sd = if 256 ≤ M.nodes.length then 31 else 0 := by
  subst ho
  rw [doE, if_neg (by rw [hi]; simp), if_neg h9, if_neg (by rw [hf]; simp)]
  by_cases h : 256 ≤ M.nodes.length
  · rw [if_pos ⟨hg, h⟩, if_pos h, h1]
  · rw [if_neg (fun e => h e.2), if_neg h, h2]
theorem still_E {op : Int} {c : Cmd} {sd : List ByteArray} (ho : c.op = op) (hi : isOp op = true) (h9 : op ≠ 9) (hf : firstE (toB op) (modeB op) c sd = 0) (hg : growB op = false) (h2 : opE M c = 0) : doE M c sd = 0 := by
  subst ho
  rw [doE, if_neg (by rw [hi]; simp), if_neg h9, if_neg (by rw [hf]; simp), if_neg (by rw [hg]; simp), h2]
theorem do_A (hM : M.nodes = fTo n) : doE M cA [ByteArray.empty] = if 256 ≤ M.nodes.length then 31 else 0 :=
  grow_E (op := 1) rfl (by decide) (by decide) fst_A (by decide) (by simp [fullE, cA, hM, abs_a]) (by simp [opE, cA, hM, abs_a])
theorem do_C (hM : M.nodes = fTo n) : doE M cC [ByteArray.empty] = if 256 ≤ M.nodes.length then 31 else 0 :=
  grow_E (op := 6) rfl (by decide) (by decide) fst_C (by decide) (by simp [fullE, cC, hM, abs_a]) (by simp [opE, cC, hM, abs_a])
theorem do_B (hM : M.nodes = fTo n) (hn : n ≤ 256) (h0 : 250 ≤ n) : doE M cB [ByteArray.empty] = if 256 ≤ M.nodes.length then 31 else 0 :=
  have h := fil_f hn (show 0 < n by omega) (look_f0 _)
  grow_E (op := 4) rfl (by decide) (by decide) fst_B (by decide) (by simp [fullE, cB, hM, abs_a, h]) (by simp [opE, cB, hM, abs_a, bothE, h])
theorem do_D (hM : M.nodes = fTo n) (hn : n ≤ 256) (h0 : 250 ≤ n) : doE M cD [ByteArray.empty] = if 256 ≤ M.nodes.length then 31 else 0 :=
  have h := fil_f hn (show 0 < n by omega) (look_f0 _)
  grow_E (op := 7) rfl (by decide) (by decide) fst_D (by decide) (by simp [fullE, cD, hM, abs_a, h]) (by simp [opE, cD, hM, abs_a, bothE, h])
theorem do_E (hM : M.nodes = fTo n) (hn : n ≤ 256) (h0 : 250 ≤ n) : doE M cE [] = 0 :=
  have h := fil_f hn (show 0 < n by omega) (look_f0 _)
  still_E (op := 3) rfl (by decide) (by decide) fst_E (by decide) (by simp [opE, cE, hM, abs_a, bothE, h])
theorem do_F (hM : M.nodes = fTo n) (hn : n ≤ 256) (h0 : 250 ≤ n) : doE M cF [] = 0 :=
  have h := fil_f hn (show 1 < n by omega) (look_f1 _)
  still_E (op := 5) rfl (by decide) (by decide) fst_F (by decide) (by simp [opE, cF, hM, h])
theorem do_G (hM : M.nodes = fTo n) (hn : n ≤ 256) (h0 : 250 ≤ n) : doE M cG [] = 0 :=
  have h := pre_f hn (show 2 < n by omega) (look_f2 _)
  still_E (op := 8) rfl (by decide) (by decide) fst_G (by decide) (by simp [opE, cG, hM, h])
end
theorem DoE_full {A : Option Addr} {c : Nat} {FA : Option Addr} {fc n : Nat} (hn : n ≤ 256) (ds : List ByteArray) (k : Cmd) (sd : List ByteArray) : DoE (fTV A c FA fc n) ds k sd = doE (openM (fTV A c FA fc n) ds) k sd := by rw [DoE, if_pos (f_loose hn)]
theorem f_str (k : Nat) : strOfNums [102, 48 + (k : Int) / 100, 48 + (k : Int) / 10 % 10, 48 + (k : Int) % 10] = fB k := by
  have e1 : (48 + (k : Int) / 100).toNat = 48 + k / 100 := by omega
  have e2 : (48 + (k : Int) / 10 % 10).toNat = 48 + k / 10 % 10 := by omega
  have e3 : (48 + (k : Int) % 10).toNat = 48 + k % 10 := by omega
  simp only [strOfNums, List.map_cons, List.map_nil, e1, e2, e3]
  rfl
theorem f3_one (s : ByteArray) (a b : Int) : ∀ u ∈ (#[.string s, .int .i64 a, .int .i64 b] : Array Value).toList, u.oneCell' = true := by
  intro u hu
  simp only [List.mem_cons, List.not_mem_nil, or_false] at hu
  rcases hu with rfl | rfl | rfl <;> rfl
end Go.Proofs.Ythmeffpickejkaa
