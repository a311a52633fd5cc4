/- What a law holds in hand while it calls: slices that go on reading as they did. -/
import Derived.Test.YtbpgakghdpflnaaAlive
import Derived.Test.YtbpgakghdpflnaaOpen
import Derived.Test.YtbpgakghdpflnaaPlain
namespace Go.Proofs.Ytbpgakghdpflnaa
open Go.RowKit

/-- The slices of l read as they are told, and nothing that was there at w0 is changed. -/
def Held (w0 w : World) (l : List (Option Addr × Nat × List Ins)) : Prop := (∀ q ∈ l, q.2.2.length = q.2.1 ∧ Sl w w.heap.size 5 q.1 q.2.1 (insL q.2.2)) ∧ Below w0.heap.size w0 w
theorem Held.next {w0 w w' : World} {l : List (Option Addr × Nat × List Ins)} (h : Held w0 w l) (hb : Below w.heap.size w w') : Held w0 w' l :=
  ⟨fun q hq => ⟨(h.1 q hq).1, (h.1 q hq).2.keep hb.size hb.block⟩, h.2.trans (hb.mono h.2.size)⟩
theorem Held.add {w0 w : World} {l : List (Option Addr × Nat × List Ins)} (h : Held w0 w l) {A : Option Addr} {n : Nat} {xs : List Ins} (hn : xs.length = n) (hs : Sl w w.heap.size 5 A n (insL xs)) : Held w0 w ((A, n, xs) :: l) :=
  ⟨fun q hq => by
    rcases List.mem_cons.1 hq with rfl | hq
    · exact ⟨hn, hs⟩
    · exact h.1 q hq, h.2⟩
theorem Held.own {w0 w w' : World} {l : List (Option Addr × Nat × List Ins)} (h : Held w0 w l) (hb : Below w.heap.size w w') {A : Option Addr} {c base : Nat} {xs : List Ins} (ho : w'.ownsRow base 26 5 (.slice A xs.length c) xs.length (insL xs)) : Held w0 w' ((A, xs.length, xs) :: l) :=
  (h.next hb).add rfl (Sl.of_own ho)
theorem Held.at {w0 w : World} {l : List (Option Addr × Nat × List Ins)} (h : Held w0 w l) (k : Nat) {q : Option Addr × Nat × List Ins} (hk : l[k]? = some q) : Sl w w.heap.size 5 q.1 q.2.1 (insL q.2.2) := (h.1 q (List.mem_of_getElem? hk)).2
theorem Held.len {w0 w : World} {l : List (Option Addr × Nat × List Ins)} (h : Held w0 w l) (k : Nat) {q : Option Addr × Nat × List Ins} (hk : l[k]? = some q) : q.2.2.length = q.2.1 := (h.1 q (List.mem_of_getElem? hk)).1

/-- The calls, as a law that holds slices makes them. -/
theorem held_alive {w0 w : World} {l : List (Option Addr × Nat × List Ins)} (h : Held w0 w l) : Calls Try.prog 10 #[] w fun e w' => e = .returned (.bool true) ∧ Held w0 w' l :=
  (alive_any w).mono fun _ _ ⟨a, b⟩ => ⟨a, h.next b⟩
theorem held_num {w0 w : World} {l : List (Option Addr × Nat × List Ins)} (h : Held w0 w l) (x : Int) : Calls Try.prog 15 #[.int .i64 x] w fun e w' => e = .returned (.int .i64 x) ∧ Held w0 w' l :=
  (num_any x w).mono fun _ _ ⟨a, b⟩ => ⟨a, h.next b⟩
theorem held_long {w0 w : World} {l : List (Option Addr × Nat × List Ins)} (h : Held w0 w l) (k : Nat) {A : Option Addr} {n c : Nat} {xs : List Ins} (hk : l[k]? = some (A, n, xs)) (hcap : n ≤ maxLen) :
    Calls Try.prog 11 #[.slice A n c] w fun e w' => e = .returned (.bool (longB xs)) ∧ Held w0 w' l :=
  (long_any xs A n c w (h.at k hk) (h.len k hk) hcap).mono fun _ _ ⟨a, b⟩ => ⟨a, h.next b⟩
theorem held_same {w0 w : World} {l : List (Option Addr × Nat × List Ins)} (h : Held w0 w l) (k j : Nat) {A B : Option Addr} {n m c d : Nat} {xs ys : List Ins} (hk : l[k]? = some (A, n, xs)) (hj : l[j]? = some (B, m, ys)) (hcap : n ≤ maxLen) :
    Calls Try.prog 13 #[.slice A n c, .slice B m d] w fun e w' => e = .returned (.bool (decide (xs = ys))) ∧ Held w0 w' l :=
  (same_any xs ys A B n m c d w (h.at k hk) (h.len k hk) (h.at j hj) (h.len j hj) hcap).mono fun _ _ ⟨a, b⟩ => ⟨a, h.next b⟩
theorem held_run {w0 w : World} {l : List (Option Addr × Nat × List Ins)} (h : Held w0 w l) (k : Nat) {A : Option Addr} {n c : Nat} {xs L : List Ins} {set : Int} (hL : peepF set xs = L) (hk : l[k]? = some (A, n, xs)) (h4 : n ≤ 4096) (hs0 : 0 ≤ set) (hs1 : set ≤ 31) :
    Calls Try.prog 12 #[.slice A n c, .int .i64 set] w fun e w' => ∃ B d, e = .returned (.tuple #[.slice B L.length d, .int .i64 0]) ∧ Held w0 w' ((B, L.length, L) :: l) :=
  (run_sl xs set A n c w L hL (h.at k hk) (h.len k hk) h4 hs0 hs1).mono fun _ _ ⟨B, d, e, ho, hb⟩ => ⟨B, d, e, h.own hb ho⟩
theorem held_bad {w0 w : World} {l : List (Option Addr × Nat × List Ins)} (h : Held w0 w l) {A : Option Addr} {n c : Nat} {set : Int} (h4 : n ≤ 4096) (hs : set < 0 ∨ 31 < set) :
    Calls Try.prog 12 #[.slice A n c, .int .i64 set] w fun e w' => e = .returned (.tuple #[.slice none 0 0, .int .i64 1]) ∧ Held w0 w' l :=
  (run_bad set A n c w h4 hs).mono fun _ _ ⟨a, b⟩ => ⟨a, h.next b⟩
end Go.Proofs.Ytbpgakghdpflnaa
