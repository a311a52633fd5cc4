/- A list that a law appends to, and the calls of name in it. -/
import Derived.Test.YtbpgakghdpflnaaName
import Derived.Test.YtbpgakghdpflnaaHeld
namespace Go.Proofs.Ytbpgakghdpflnaa
open Go.RowKit

/-- v is the law's own slice of the list L, of m elements. -/
def Grows (w wr : World) (v : Value) (m : Nat) (L : List Ins) : Prop := m = L.length ∧ ∃ A c, v = .slice A m c ∧ wr.ownsRow w.heap.size 26 5 (.slice A m c) m (insL L) ∧ Below w.heap.size w wr
theorem Grows.nil {w w1 : World} (h : Below w.heap.size w w1) : Grows w w1 (.slice none 0 0) 0 [] := ⟨rfl, none, 0, rfl, World.ownsRow_nil _ _ _ _, h⟩
theorem Grows.call {w wr w1 : World} {v : Value} {m : Nat} {L : List Ins} (h : Grows w wr v m L) (hb : Below wr.heap.size wr w1) : Grows w w1 v m L := by
  obtain ⟨hm, A, c, e, ho, hB⟩ := h
  exact ⟨hm, A, c, e, own_below ho hb (Nat.le_refl _), hB.trans (hb.mono hB.size)⟩
theorem Grows.push {w w1 wr : World} {A : Option Addr} {m c c1 g : Nat} {L : List Ins} {x : Ins} (hm : m = L.length) (ho : wr.ownsRow w.heap.size 26 5 (.slice A m c) m (insL L)) (hB : Below w.heap.size w wr)
    (ho1 : w1.ownsRow w.heap.size 26 5 (.slice (some ⟨g, 0, none⟩) (m + 1) c1) (m + 1) (insL L ++ x.cells.toList)) (hg : wr.grownBy w1 (blkOf A)) : Grows w w1 (.slice (some ⟨g, 0, none⟩) (m + 1) c1) (m + 1) (L ++ [x]) :=
  ⟨by simp [hm], _, _, rfl, by rw [insL_snoc]; exact ho1, hB.trans (below_grown hg hB.size (own_blk ho))⟩
theorem push_sl {w w1 : World} {m c1 g : Nat} {L : List Ins} {x : Ins} (ho1 : w1.ownsRow w.heap.size 26 5 (.slice (some ⟨g, 0, none⟩) (m + 1) c1) (m + 1) (insL L ++ x.cells.toList)) : Sl w1 w1.heap.size 5 (some ⟨g, 0, none⟩) (m + 1) (insL (L ++ [x])) := by
  rw [insL_snoc]; exact Sl.of_own ho1
theorem Grows.sl {w wr : World} {v : Value} {m : Nat} {L : List Ins} (h : Grows w wr v m L) : ∃ A c, v = .slice A m c ∧ Sl wr wr.heap.size 5 A m (insL L) ∧ m = L.length ∧ Below w.heap.size w wr := by
  obtain ⟨hm, A, c, e, ho, hB⟩ := h
  exact ⟨A, c, e, Sl.of_own ho, hm, hB⟩
theorem name_succ (i : Nat) (hi : i + 1 < 10000) (w : World) : Calls Try.prog 16 #[.int .i64 ((i : Int) + 1)] w fun e w' => e = .returned (.string (nameB (i + 1))) ∧ Below w.heap.size w w' := name_any (i + 1) hi w
theorem name_pred (i : Nat) (hi : i < 10000) (h1 : 0 < i) (w : World) : Calls Try.prog 16 #[.int .i64 ((i : Int) - 1)] w fun e w' => e = .returned (.string (nameB (i - 1))) ∧ Below w.heap.size w w' := by
  have := name_any (i - 1) (by omega) w
  rwa [show ((i - 1 : Nat) : Int) = (i : Int) - 1 by omega] at this
theorem name_0 (w : World) : Calls Try.prog 16 #[.int .i64 0] w fun e w' => e = .returned (.string (nameB 0)) ∧ Below w.heap.size w w' := name_any 0 (by omega) w
theorem name_1 (w : World) : Calls Try.prog 16 #[.int .i64 1] w fun e w' => e = .returned (.string (nameB 1)) ∧ Below w.heap.size w w' := name_any 1 (by omega) w
theorem downTo_pred {n j : Nat} (h0 : 0 < j) (h : j ≤ n) : downTo n j ++ [ren j (j - 1)] = downTo n (j - 1) := by
  obtain ⟨i, rfl⟩ : ∃ i, j = i + 1 := ⟨j - 1, by omega⟩
  exact (downTo_succ (n := n) (k := i) (by omega)).symm
theorem Sl.two {w : World} {B : Nat} {A : Option Addr} {x y : Ins} (h : Sl w B 5 A 2 (insL [x, y])) : ∃ b o, A = some ⟨b, o, none⟩ ∧ b < B ∧ x.at w b o ∧ y.at w b (o + 5) := by
  obtain ⟨b, o, rfl, hb, hr⟩ := h.2 (by omega)
  have h0 := hr.ins (k := 0) (x := x) rfl
  have h1 := hr.ins (k := 1) (x := y) rfl
  exact ⟨b, o, rfl, hb, by simpa using h0, by simpa using h1⟩
theorem Sl.one {w : World} {B : Nat} {A : Option Addr} {x : Ins} (h : Sl w B 5 A 1 (insL [x])) : ∃ b o, A = some ⟨b, o, none⟩ ∧ b < B ∧ x.at w b o := by
  obtain ⟨b, o, rfl, hb, hr⟩ := h.2 (by omega)
  have h0 := hr.ins (k := 0) (x := x) rfl
  exact ⟨b, o, rfl, hb, by simpa using h0⟩
theorem name_lit {i : Nat} {s : ByteArray} (hs : nameB i = s) (hi : i < 10000) {x : Int} (hx : x = i) (w : World) : Calls Try.prog 16 #[.int .i64 x] w fun e w' => e = .returned (.string s) ∧ Below w.heap.size w w' := by
  subst hs hx; exact name_any i hi w
theorem back_odd' {s0 s1 : ByteArray} (h0 : nameB 0 = s0) (h1' : nameB 1 = s1) (n : Nat) (h1 : 1 ≤ n) (hn : n ≤ 300) : peepF 9 (upTo n ++ downTo n 0 ++ [⟨3, s0, s1, 0, 0⟩]) = [⟨3, s0, s1, 0, 0⟩, syncIns] := by
  subst h0 h1'; exact back_odd n h1 hn
def TwoRes (x y : Ins) (w : World) (e : Ending) (w' : World) : Prop :=
  ∃ b o c, e = .returned (.tuple #[.slice (some ⟨b, o, none⟩) 2 c, .int .i64 0]) ∧ b < w'.heap.size ∧ x.at w' b o ∧ y.at w' b (o + 5) ∧ Below w.heap.size w w'
def OneRes (x : Ins) (w : World) (e : Ending) (w' : World) : Prop :=
  ∃ b o c, e = .returned (.tuple #[.slice (some ⟨b, o, none⟩) 1 c, .int .i64 0]) ∧ b < w'.heap.size ∧ x.at w' b o ∧ Below w.heap.size w w'
theorem run_two {xs : List Ins} {set : Int} {x y : Ins} (hl : peepF set xs = [x, y]) {A : Option Addr} {n c : Nat} {w : World} (hA : Sl w w.heap.size 5 A n (insL xs)) (hn : xs.length = n) (h4 : n ≤ 4096) (hs0 : 0 ≤ set) (hs1 : set ≤ 31) :
    Calls Try.prog 12 #[.slice A n c, .int .i64 set] w (TwoRes x y w) :=
  (run_sl xs set A n c w _ hl hA hn h4 hs0 hs1).mono fun _ _ ⟨_, d, e, ho, hb⟩ => by
    obtain ⟨b, o, rfl, h1, h2, h3⟩ := Sl.two (Sl.of_own ho)
    exact ⟨b, o, d, e, h1, h2, h3, hb⟩
theorem run_one {xs : List Ins} {set : Int} {x : Ins} (hl : peepF set xs = [x]) {A : Option Addr} {n c : Nat} {w : World} (hA : Sl w w.heap.size 5 A n (insL xs)) (hn : xs.length = n) (h4 : n ≤ 4096) (hs0 : 0 ≤ set) (hs1 : set ≤ 31) :
    Calls Try.prog 12 #[.slice A n c, .int .i64 set] w (OneRes x w) :=
  (run_sl xs set A n c w _ hl hA hn h4 hs0 hs1).mono fun _ _ ⟨_, d, e, ho, hb⟩ => by
    obtain ⟨b, o, rfl, h1, h2⟩ := Sl.one (Sl.of_own ho)
    exact ⟨b, o, d, e, h1, h2, hb⟩
theorem ret_bool {a b : Bool} (h : a = b) : Ending.returned (.bool a) = .returned (.bool b) := by rw [h]
end Go.Proofs.Ytbpgakghdpflnaa
