/- shuntref6.Form: the walk. -/
import Derived.Test.YtanaccoelifcpaaRef6
import Derived.IntWalk
namespace Go.Proofs.Ytanaccoelifcpaa
open Go.RowKit

theorem or4 {a b c d : Bool} (h : (a || b || c || d) = true) : a = true ∨ (a = false ∧ b = true) ∨ (a = false ∧ b = false ∧ c = true) ∨ (a = false ∧ b = false ∧ c = false ∧ d = true) := by
  cases a <;> cases b <;> cases c <;> cases d <;> simp_all
end Go.Proofs.Ytanaccoelifcpaa
