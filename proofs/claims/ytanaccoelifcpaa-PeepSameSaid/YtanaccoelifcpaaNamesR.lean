/- shuntref6.Names: the paths that nodes pick. -/
import Derived.Test.YtanaccoelifcpaaRef6
namespace Go.Proofs.Ytanaccoelifcpaa
open Go.RowKit

/-- The paths of the nodes that f picks. -/
def picks (f : Node → Bool) (l : List Node) : List ByteArray := (l.filter f).map (·.path)
theorem picks_yes {f : Node → Bool} {x : Node} (h : f x = true) (t : List Node) : picks f (x :: t) = x.path :: picks f t := by simp [picks, h]
theorem picks_no {f : Node → Bool} {x : Node} (h : f x = false) (t : List Node) : picks f (x :: t) = picks f t := by simp [picks, h]
theorem picks_append (f : Node → Bool) (l m : List Node) : picks f (l ++ m) = picks f l ++ picks f m := by simp [picks]
theorem picks_len (f : Node → Bool) (l : List Node) : (picks f l).length ≤ l.length := by rw [picks, List.length_map]; exact List.length_filter_le _ _
def namesF (file : Int) (y : Node) : Bool := (y.file == file) && decide (0 ≤ file)
def kidsF (p : ByteArray) (y : Node) : Bool := (parentB y.path).toList == p.toList
/-- A list of texts that was made. -/
def TextsRes (w : World) (ps : List ByteArray) (e : Ending) (w' : World) : Prop :=
  ∃ (A : Option Addr) (n c : Nat), e = .returned (.slice A n c) ∧ ps.length = n ∧ Sl w' w'.heap.size 1 A n (ps.flatMap strOf) ∧ Below w.heap.size w w'
def TextsAt (f : Node → Bool) (nodes : List Node) (base : Nat) (w wr : World) (tv : Array Value) (v : Value) (k : Nat) : Prop :=
  ∃ (A : Option Addr) (n c : Nat) (ps : List ByteArray), v = .slice A n c ∧ ps.length = n ∧ n ≤ k ∧ wr.ownsRow base 9 1 (.slice A n c) n (ps.flatMap strOf) ∧ picks f nodes = ps ++ picks f (nodes.drop k) ∧ Blk wr w.heap.size 25 tv ∧ Below w.heap.size w wr
theorem ne_own1 {w : World} {base e sz n c r : Nat} {A : Option Addr} {L : List Value} (h : w.ownsRow base e sz (.slice A n c) n L) (hr : r < base) : some r ≠ blkOf A := fun e => by have := own_blk1 h r e.symm; omega
theorem own_keep1 {w w' : World} {base e sz n c B : Nat} {A : Option Addr} {L : List Value} (h : w.ownsRow base e sz (.slice A n c) n L) (hb : Below B w w') (hB : w.heap.size ≤ B) : w'.ownsRow base e sz (.slice A n c) n L :=
  own_keep h fun g o e => by
    subst e
    rcases h.2 with ⟨h', _⟩ | ⟨g', cap, cur, hv, hg, hh, _⟩
    · cases h'
    · injection hv with hA
      injection hA with hA
      injection hA with hA _ _
      subst hA
      exact hb.block g (Nat.lt_of_lt_of_le (Array.getElem?_eq_some_iff.1 hh).1 hB)
