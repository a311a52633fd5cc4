/- tree.Bytes of whatever tree, in one contract; a string of such bytes. -/
import Derived.Test.YtdjlchbgdehccaaTurnP
import Derived.Test.YtdjlchbgdehccaaCanonP
namespace Go.Proofs.Ytdjlchbgdehccaa
open Go.RowKit

theorem twoI_pos (k : Int) (l : List Int) : 0 < (twoI k ++ l).length := by simp [twoI]
theorem tree_pos (t : TV) (ds : List ByteArray) : 0 < (treeI t ds).length := twoI_pos _ _
/-- What tree.Bytes hands back: a row of the caller's own; none, if the tree is not loose. -/
def BytesAny (t : TV) (ds : List ByteArray) (w : World) (e : Ending) (w' : World) : Prop :=
  ∃ (A : Option Addr) (n c : Nat) (xs : List Int), e = .returned (.tuple #[.slice A n c, .int .i64 (looseE t)]) ∧ xs.length = n ∧ w'.ownsRow w.heap.size 5 1 (.slice A n c) n (i8C xs) ∧ (looseE t = 0 → xs = treeI t ds) ∧ (looseE t ≠ 0 → n = 0) ∧ Below w.heap.size w w'
theorem bytes_any (t : TV) (ds : List ByteArray) (w : World) (h : TreeD w t ds) : Calls Try.prog 32 #[t.val] w (BytesAny t ds w) := by
  by_cases hl : looseE t = 0
  · refine (bytes_yes t ds w h hl).mono fun e w' hr => ?_
    obtain ⟨A, n, c, he, hn, ho, hb⟩ := hr
    exact ⟨A, n, c, treeI t ds, by rw [hl]; exact he, hn, own_low ho (Nat.le_succ _), fun _ => rfl, fun h => absurd hl h, hb⟩
  · refine (bytes_no t w h.tree hl).mono fun e w' hr => ?_
    exact ⟨none, 0, 0, [], hr.1, rfl, ⟨rfl, .inl ⟨rfl, rfl⟩⟩, fun h => absurd h hl, fun _ => rfl, hr.2⟩
theorem exec_convI {o : Oper} {a : Act} {w : World} {x : Operand} {B n c : Nat} {A : Option Addr} {xs : List Int} (ho : o.op = .convert 27 9 x) (hx : a.eval x = .slice A n c) (h : Sl w B 1 A n (i8C xs)) (hn : xs.length = n) (h0 : 0 < n) :
    (execOp a.eval o).run Try.prog w = .ok (.value (.string (strOfNums xs))) w := by
  unfold execOp
  simp only [ho, hx, Sem.run_bind, Sem.run_pure, run_convI h hn h0, Result.andThen_ok]
/-- A row of the caller's own, turned byte by byte, keeps its form. -/
theorem own_nm {w : World} {base e sz n c : Nat} {A : Option Addr} {L : List Value} (h : w.ownsRow base e sz (.slice A n c) n L) : n ≤ 9223372036854775807 := by
  rcases h.2 with ⟨_, h0⟩ | ⟨g, cap, cur, hv, hg, hh, hnc, hcm, hcs, ht⟩
  · omega
  · unfold maxLen at hcm; omega
end Go.Proofs.Ytdjlchbgdehccaa
