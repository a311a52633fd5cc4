/- A map from strings to ints that the call owns, as a function of the key. -/
import Derived.Test.YtdofehgoeppnmaaMem
import Derived.Maps.OwnOps
import Derived.Maps.Views
import Derived.Carry
namespace Go.Proofs.Ytdofehgoeppnmaa
open Go.RowKit Go.WideMaps Go.Maps

def KM (w : World) (b n : Nat) (f : List UInt8 → Int) : Prop :=
  ∃ D : DataW Unit, IsMap D ∧ w.ownsMap Try.prog 9 (plainElem Try.prog 3) b n D ∧ ∀ k : List UInt8, D.atKey (.string k) (.lit (.int .i64 0)) = .lit (.int .i64 (f k))
theorem Try.strKeyed : Keyed Try.prog 9 := string_keyed Try.underlying9
theorem Try.zeroInt (w : World) : (zeroValue 3).run Try.prog w = .ok (.int .i64 0) w := by kernel_rfl
theorem KM.new (w : World) : KM (w.alloc (.map #[] 0)) w.heap.size 0 (fun _ => 0) := ⟨.map [], ⟨_, rfl⟩, World.ownsMap_made _ _ _ _, fun _ => rfl⟩
theorem KM.kept {w w' : World} {b n : Nat} {f : List UInt8 → Int} {row : Option Nat} (h : KM w b n f) (hg : w.grownBy w' row) (hne : some b ≠ row) : KM w' b n f := by
  obtain ⟨D, h0, h1, h2⟩ := h
  exact ⟨D, h0, h1.kept hg hne, h2⟩
theorem KM.lt {w : World} {b n : Nat} {f : List UInt8 → Int} (h : KM w b n f) : b < w.heap.size := h.choose_spec.2.1.lt
theorem KM.look {w : World} {b n : Nat} {f : List UInt8 → Int} (h : KM w b n f) {s : ByteArray} (hs : s.size ≤ maxLen) :
    (Instr.lookup 40 (.map (some b)) (.string s) false).run Try.prog w = .ok (.int .i64 (f s.data.toList)) w := by
  obtain ⟨D, h0, h1, h2⟩ := h
  obtain ⟨c, hrun, hat, _⟩ := h1.lookup_int Try.strKeyed Try.underlying40 Try.underlying3 (Try.zeroInt _) (keyOf_string_mk Try.underlying9 hs)
  rw [h2] at hat
  simp only [DataW.lit.injEq, Lit.int.injEq, true_and] at hat
  subst hat
  exact hrun
theorem KM.put {w : World} {b n : Nat} {f : List UInt8 → Int} (h : KM w b n f) {s : ByteArray} (hs : s.size ≤ maxLen) (hn : n < maxLen) {v : Int} (hv : (Lit.int .i64 v).wf = true) :
    ∃ w', (Instr.mapUpdate 40 (.map (some b)) (.string s) (.int .i64 v)).run Try.prog w = .ok () w' ∧ KM w' b (n + 1) (fun k => if k = s.data.toList then v else f k) ∧ w.grownBy w' (some b) := by
  obtain ⟨D, h0, h1, h2⟩ := h
  obtain ⟨w', hrun, ho, hg⟩ := h1.update Try.strKeyed Try.underlying40 hn (keyOf_string_mk Try.underlying9 hs) (plainElem_int (H := Unit) Try.underlying3 hv)
  refine ⟨w', hrun, ⟨_, IsMap.put h0 _ _, ho, fun k => ?_⟩, hg⟩
  show _ = DataW.lit (Lit.int .i64 (if k = s.data.toList then v else f k))
  by_cases e : k = s.data.toList
  · rw [if_pos e, e, atKey_put_same h0 (by trivial)]
  · rw [if_neg e, atKey_put_other (by intro h; injection h with h; exact e h), h2]
section
variable {ops : Array Oper} {rest : List Oper} {o : Oper} {a : Act} {Q : Exit → Act → World → Prop} {w : World}
theorem wpList_km_put (hgd : o.guard = none) (m x y : Operand) (ho : o.op = .mapUpdate 40 m x y) {b n : Nat} {f : List UInt8 → Int} (hm : a.eval m = .map (some b)) (h : KM w b n f) {s : ByteArray} (hx : a.eval x = .string s)
    (hs : s.size ≤ maxLen) (hn : n < maxLen) {v : Int} (hy : a.eval y = .int .i64 v) (hv : (Lit.int .i64 v).wf = true)
    (hK : ∀ w', KM w' b (n + 1) (fun k => if k = s.data.toList then v else f k) → w.grownBy w' (some b) → wpList Try.prog ops Q rest (a.put o.dst undef) w') : wpList Try.prog ops Q (o :: rest) a w := by
  refine wpList_plain hgd fun K hK' => ?_
  obtain ⟨w', hrun, r1, r2⟩ := h.put hs hn hv
  unfold Oper.wp execOp
  simp only [ho, hm, hx, hy, Sem.run_bind, Sem.run_pure, Result.andThen_ok, hrun]
  exact hK' _ _ (hK w' r1 r2)
theorem wpList_km_insert (hgd : o.guard = none) (m x y : Operand) (ho : o.op = .insert 40 m x y) {b n : Nat} {f : List UInt8 → Int} (hm : a.eval m = .map (some b)) (h : KM w b n f) {s : ByteArray} (hx : a.eval x = .string s)
    (hs : s.size ≤ maxLen) (hn : n < maxLen) {v : Int} (hy : a.eval y = .int .i64 v) (hv : (Lit.int .i64 v).wf = true)
    (hK : ∀ w', KM w' b (n + 1) (fun k => if k = s.data.toList then v else f k) → w.grownBy w' (some b) → wpList Try.prog ops Q rest (a.put o.dst undef) w') : wpList Try.prog ops Q (o :: rest) a w := by
  refine wpList_plain hgd fun K hK' => ?_
  obtain ⟨w', hrun, r1, r2⟩ := h.put hs hn hv
  unfold Oper.wp execOp
  simp only [ho, hm, hx, hy, Sem.run_bind, Sem.run_pure, Result.andThen_ok, hrun]
  exact hK' _ _ (hK w' r1 r2)
end
end Go.Proofs.Ytdofehgoeppnmaa
