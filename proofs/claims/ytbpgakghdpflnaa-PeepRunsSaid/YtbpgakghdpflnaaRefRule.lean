/- shuntref18.rule: what the document's own rule answers for two instructions; it is what peep's eleven rules answer. -/
import Derived.Test.YtbpgakghdpflnaaPlain
namespace Go.Proofs.Ytbpgakghdpflnaa
open Go.RowKit

def seq (a b : ByteArray) : Bool := a.toList == b.toList
theorem seq_iff {a b : ByteArray} : seq a b = true ↔ a = b := by unfold seq; rw [beq_iff_eq]; exact toList_iff
/-- The answer of the document's rule, in the order of its tests. -/
def refRule (x y : Ins) (s1 s2 s4 : Bool) : Option (List Ins) :=
  if (s1 && (x.op == 4 && (y.op == 5 && seq x.path y.path))) = true then some [⟨3, x.path, x.dst, 0, 0⟩]
  else if (s1 && (x.op == 3 && (y.op == 3 && seq x.dst y.path))) = true then (if seq x.path y.dst = true then some [] else some [⟨3, x.path, y.dst, 0, 0⟩])
  else if (s2 && y.op == 8) = true ∧ (x.op == 1 && seq x.path y.path) = true then some [⟨1, x.path, ByteArray.empty, y.mode, 0⟩]
  else if (s2 && y.op == 8) = true ∧ (x.op == 6 && seq x.path y.path) = true then some [⟨6, x.path, ByteArray.empty, y.mode, x.ref⟩]
  else if (s2 && y.op == 8) = true ∧ (x.op == 7 && seq x.dst y.path) = true then some [⟨7, x.path, x.dst, y.mode, 0⟩]
  else if (s2 && y.op == 8) = true ∧ (x.op == 8 && seq x.path y.path) = true then some [⟨8, x.path, ByteArray.empty, y.mode, 0⟩]
  else if (s4 && ((x.op == 1 && (y.op == 2 && seq x.path y.path)) || ((x.op == 6 && (y.op == 5 && seq x.path y.path)) || ((x.op == 7 || x.op == 4) && (y.op == 5 && seq x.dst y.path))))) = true then some []
  else none

theorem or_else_ite {α : Type} {c : Prop} [Decidable c] (z : α) (r : Option α) : (match (if c then some z else none) with | some l => some l | none => r) = if c then some z else r := by
  by_cases h : c <;> simp [h]
set_option maxHeartbeats 4000000 in
theorem ref_fuse (x y : Ins) (set : Int) : refRule x y (bits .and .i64 set 1 != 0) (bits .and .i64 set 2 != 0) (bits .and .i64 set 4 != 0) = fuse x y set := by
  unfold fuse rulesL
  simp only [fusedF, bne]
  generalize (bits .and .i64 set 1 == 0) = s1
  generalize (bits .and .i64 set 2 == 0) = s2
  generalize (bits .and .i64 set 4 == 0) = s4
  simp only [refRule, rule1, rule2, rule3, rule4, rule5, rule6, rule7, rule8, rule9, rule10, rule11, Bool.and_eq_true, Bool.or_eq_true, beq_iff_eq, seq_iff, or_else_ite]
  cases s1 <;> cases s2 <;> cases s4 <;> simp only [Bool.not_true, Bool.not_false, Bool.false_eq_true, false_and, true_and, if_true, if_false]
  all_goals first | rfl | (repeat' split) <;> first | rfl | (exfalso; simp_all; done) | (exfalso; simp_all; omega) | grind

end Go.Proofs.Ytbpgakghdpflnaa
