/- Package shuntlaw7's small functions: num, Much, heavy, alive; shuntref7.HasMode, HasTo. -/
import Derived.Test.YtanaccoelifcpaaMuch7
import Derived.Test.YtanaccoelifcpaaDoInv
import Derived.Test.YtanaccoelifcpaaExact
import Derived.Test.YtanaccoelifcpaaBig
namespace Go.Proofs.Ytanaccoelifcpaa
open Go.RowKit

/-- The contents of a tree that was told. -/
def dsOf (M : PW) (S : List Node) : List ByteArray := (idsL S).map fun i => (M.F i).2
theorem ToldAs.tree {M : PW} {base : Nat} {w : World} {S : List Node} {u : TV} (h : ToldAs M base w S u) : TreeD w u (dsOf M S) := by
  have hm : ∀ {e sz n c : Nat} {A : Option Addr} {L : List Value}, w.ownsRow base e sz (.slice A n c) n L → n ≤ 9223372036854775807 := fun {e sz n c A L} h => by
    rcases h.2 with ⟨_, h0⟩ | ⟨g, cap, cur, hv, hg, hh, hnc, hcm, hcs, ht⟩
    · omega
    · unfold maxLen at hcm; omega
  have hl : (dsOf M S).length = u.files.length := by rw [dsOf, List.length_map, h.fl, h.fn]
  refine ⟨⟨by rw [h.nodes, List.length_map, h.nn], h.fl, Sl.of_own h.own, Sl.of_own h.ownF, hm h.own, hm h.ownF⟩, ⟨hl, fun k x d hx hd => ?_⟩⟩
  have hr := h.rows.row k x d hx hd
  exact ⟨hr.1.symm, Sl.of_own hr.2⟩
theorem rises_eq {S S' l : List Node} (h : S.Perm l) (h' : S'.Perm l) (hr : Rises S) (hr' : Rises S') : S = S' :=
  (h.trans h'.symm).eq_of_pairwise (fun _ _ _ _ h1 h2 => absurd h1 (List.lt_asymm h2)) hr hr'
/-- Two tellings of one world. -/
theorem told_same {M : PW} {b1 b2 : Nat} {w1 w2 : World} {S1 S2 : List Node} {u v : TV} (h : ToldAs M b1 w1 S1 u) (h' : ToldAs M b2 w2 S2 v) : S1 = S2 ∧ exactB u v (dsOf M S1) (dsOf M S2) = true := by
  have e := rises_eq h.perm h'.perm h.rises h'.rises
  subst e
  refine ⟨rfl, ?_⟩
  simp [exactB, h.nodes, h'.nodes, h.modes, h'.modes]

def HeavyRes (t : TV) (n : Nat) (w : World) (e : Ending) (w' : World) : Prop := ∃ b : Bool, e = .returned (.bool b) ∧ (b = false → t.nn ≤ 300 ∧ t.fn ≤ 300 ∧ n ≤ 60) ∧ Below w.heap.size w w'