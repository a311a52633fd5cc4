/- The small functions of the laws of chapter 18: num, long, SameIns, alive. -/
import Derived.Test.YtanaccoelifcpaaPeepRun
namespace Go.Proofs.Ytanaccoelifcpaa
open Go.RowKit

instance : DecidableEq Ins := fun _ _ => decidable_of_iff _ Ins.eqb_iff
theorem num_any (e : Int) (w : World) : Calls Try.prog 8 #[.int .i64 e] w fun r w' => r = .returned (.int .i64 e) ∧ Below w.heap.size w w' := by
  go_enter Try.func8, Try.ntmps8
  go_wp2
  go_ret
  exact ⟨rfl, Below.refl _ _⟩

/-- What stands at an index of a slice that reads as a list of instructions. -/
theorem Sl.ins {w : World} {B n : Nat} {A : Option Addr} {xs : List Ins} (h : Sl w B 5 A n (insL xs)) (hn : xs.length = n) {k : Nat} (hk : k < n) : ∃ b o x, A = some ⟨b, o, none⟩ ∧ b < B ∧ xs[k]? = some x ∧ x.at w b (o + k * 5) := by
  obtain ⟨b, o, rfl, hb, hrow⟩ := h.2 (by omega)
  obtain ⟨x, hx⟩ : ∃ x, xs[k]? = some x := ⟨xs[k]'(by omega), List.getElem?_eq_getElem _⟩
  exact ⟨b, o, x, rfl, hb, hx, hrow.ins hx⟩

/-- What long adds up. -/
def longSum : List Ins → Int → Int
  | [], s => s
  | x :: t, s => if s ≤ 60000 then longSum t (wrap64 (wrap64 (wrap64 (s + 1) + x.path.size) + x.dst.size)) else s
def longB (xs : List Ins) : Bool := decide (60000 < longSum xs 0) || decide (400 < (xs.length : Int))
theorem longB_le {xs : List Ins} (h : longB xs = false) : xs.length ≤ 400 := by
  simp only [longB, Bool.or_eq_false_iff, decide_eq_false_iff_not] at h
  omega
theorem drop_at {α : Type} {l : List α} {k : Nat} {x : α} (h : l[k]? = some x) : l.drop k = x :: l.drop (k + 1) := by
  obtain ⟨hlt, he⟩ := List.getElem?_eq_some_iff.1 h
  rw [List.drop_eq_getElem_cons hlt, he]
theorem longSum_step {xs : List Ins} {k : Nat} {x : Ins} {s : Int} (hx : xs[k]? = some x) (hs : s ≤ 60000) : longSum (xs.drop k) s = longSum (xs.drop (k + 1)) (wrap64 (wrap64 (wrap64 (s + 1) + x.path.size) + x.dst.size)) := by
  rw [drop_at hx, longSum, if_pos hs]
theorem longSum_stop {xs : List Ins} {k : Nat} {s : Int} (h : ¬ s ≤ 60000 ∨ xs.length ≤ k) : longSum (xs.drop k) s = s := by
  rcases Nat.lt_or_ge k xs.length with hk | hk
  · rw [List.drop_eq_getElem_cons hk, longSum, if_neg (by omega)]
  · rw [List.drop_of_length_le hk]; rfl
end Go.Proofs.Ytanaccoelifcpaa
