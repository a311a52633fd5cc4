/- shuntref6.Weight, dir, File; shuntref1.Plus, Minus. -/
import Derived.Test.YtanaccoelifcpaaLooksR
import Derived.Test.YtanaccoelifcpaaKit
namespace Go.Proofs.Ytanaccoelifcpaa
open Go.RowKit

def dW (k : Nat) : Nat := max 1 ((k + 15) / 16)
def fW (n : Nat) : Nat := if 8 < (n + 511) / 512 then (n + 511) / 512 + 1 else (n + 511) / 512
def tollV (b i : Int) : Value := .agg #[.int .i64 b, .int .i64 i]
theorem div_nat (n c d : Nat) : ((n : Int) + (c : Int)) / (d : Int) = (((n + c) / d : Nat) : Int) := by
  rw [Int.natCast_ediv]; simp
/-- How many nodes stand in a directory. -/
def kidN (l : List Node) (p : ByteArray) : Nat := (picks (kidsF p) l).length
theorem kidN_le (l : List Node) (p : ByteArray) : kidN l p ≤ l.length := picks_len _ _
/-- Blocks of the directories, how many there are, blocks of the files. -/
def dirsB (all l : List Node) : Nat := (l.map fun x => if x.file = -1 then dW (kidN all x.path) else 0).sum
def dirsI (l : List Node) : Nat := (l.map fun x => if x.file = -1 then 1 else 0).sum
def filesB (fs : List FC) : Nat := (fs.map fun f => fW f.n).sum
def wgtB (t : TV) : Nat := dW (kidN t.nodes ByteArray.empty) + dirsB t.nodes t.nodes + filesB t.files
def wgtI (t : TV) : Nat := 1 + dirsI t.nodes + t.files.length
theorem sum_snoc (l : List Nat) (x : Nat) : (l ++ [x]).sum = l.sum + x := by simp
theorem dirsB_snoc (all l : List Node) (x : Node) : dirsB all (l ++ [x]) = dirsB all l + if x.file = -1 then dW (kidN all x.path) else 0 := by
  unfold dirsB; rw [List.map_append, List.map_singleton, sum_snoc]
theorem dirsI_snoc (l : List Node) (x : Node) : dirsI (l ++ [x]) = dirsI l + if x.file = -1 then 1 else 0 := by
  unfold dirsI; rw [List.map_append, List.map_singleton, sum_snoc]
theorem filesB_snoc (l : List FC) (x : FC) : filesB (l ++ [x]) = filesB l + fW x.n := by
  unfold filesB; rw [List.map_append, List.map_singleton, sum_snoc]
theorem dW_le {k n : Nat} (h : k ≤ n) (h1 : 1 ≤ n) : dW k ≤ n := by unfold dW; omega
theorem fW_le (n : Nat) : fW n ≤ n + 1 := by unfold fW; split <;> omega
theorem dirsB_le (all : List Node) (h : all.length ≤ 1000) : ∀ l : List Node, dirsB all l ≤ l.length * 1000 ∧ dirsI l ≤ l.length := fun l => by
  induction l with
  | nil => exact ⟨Nat.le_refl _, Nat.le_refl _⟩
  | cons x t ih =>
    unfold dirsB dirsI at ih ⊢
    simp only [List.map_cons, List.sum_cons, List.length_cons]
    have := dW_le (Nat.le_trans (kidN_le all x.path) h) (by omega)
    split <;> omega
theorem filesB_le (l : List FC) (h : ∀ x ∈ l, x.n ≤ 100000) : filesB l ≤ l.length * 100001 := by
  induction l with
  | nil => exact Nat.le_refl _
  | cons x t ih =>
    have h1 := ih fun y hy => h y (List.mem_cons_of_mem _ hy)
    have h2 := h x (by simp)
    have h3 := fW_le x.n
    unfold filesB at h1 ⊢
    simp only [List.map_cons, List.sum_cons, List.length_cons]
    omega
theorem take_sum_le (all : List Node) (h : all.length ≤ 1000) (k : Nat) (hk : k ≤ 1000) : dirsB all (all.take k) ≤ 1000000 ∧ dirsI (all.take k) ≤ 1000 := by
  have := dirsB_le all h (all.take k)
  have h2 : (all.take k).length ≤ k := by rw [List.length_take]; omega
  constructor
  · have := Nat.mul_le_mul_right 1000 (Nat.le_trans h2 hk); omega
  · omega
end Go.Proofs.Ytanaccoelifcpaa
