/- shuntref6: Find, Big, Form, Loose: walks. -/
import Derived.Test.YtanaccoelifcpaaLoose
import Derived.Test.YtanaccoelifcpaaRef5
import Derived.Laws.Cover1
namespace Go.Proofs.Ytanaccoelifcpaa
open Go.RowKit

/-- The place of a path from place i on. -/
def findFrom (p : ByteArray) : List Node → Int → Int
  | [], _ => -1
  | x :: t, i => if (x.path.toList == p.toList) = true then i else findFrom p t (i + 1)
def findI (l : List Node) (p : ByteArray) : Int := findFrom p l 0
theorem findFrom_lt (p : ByteArray) : ∀ (l : List Node) (i : Int), findFrom p l i = -1 ∨ (i ≤ findFrom p l i ∧ findFrom p l i < i + l.length)
  | [], i => .inl rfl
  | x :: t, i => by
    rw [findFrom]
    split
    · right; simp only [List.length_cons]; omega
    · rcases findFrom_lt p t (i + 1) with h | h
      · exact .inl h
      · right; simp only [List.length_cons]; omega
/-- Is a node's parent not a directory that is there? -/
def upBad (l : List Node) (x : Node) : Bool :=
  !(parentB x.path).toList.isEmpty && (decide (findI l (parentB x.path) < 0) || ((l[(findI l (parentB x.path)).toNat]?).map (·.file)).getD 0 != -1)
def prevBad : Option ByteArray → ByteArray → Bool
  | none, _ => false
  | some q, p => !(Op.bytesLess q.toList p.toList)
def fileBad (x : Node) (next fn : Int) : Bool := x.mode != 0 || decide (x.file < 0) || decide (next < x.file) || decide (fn ≤ x.file)
def formRun (l : List Node) (fn : Int) : List Node → Option ByteArray → Int → Option Int
  | [], _, next => some next
  | x :: r, prev, next =>
    if (!validL x.path.data.toList || prevBad prev x.path) = true then none
    else if upBad l x = true then none
    else if x.file = -1 then (if okMode x.mode = true then formRun l fn r (some x.path) next else none)
    else if fileBad x next fn = true then none
    else formRun l fn r (some x.path) (if x.file = next then next + 1 else next)
def formB (t : TV) : Bool := match formRun t.nodes t.fn t.nodes none 0 with
  | some f => (t.files.all fun x => okMode x.mode) && decide (f = t.fn)
  | none => false
end Go.Proofs.Ytanaccoelifcpaa
