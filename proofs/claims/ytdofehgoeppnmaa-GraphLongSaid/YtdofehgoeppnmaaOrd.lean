/- A region whose order is open, walked in one order that is chosen ahead: operations that yield one value in every world that meets S are taken first; what may change the world comes up alone. -/
import Derived.Test.YtdofehgoeppnmaaMem
import Derived.OrdersHeld
namespace Go.Proofs.Ytdofehgoeppnmaa
open Go.RowKit

section
variable {P : Program} {ops : Array Oper} {Q : Exit → Act → World → Prop} {S : World → Prop}

def wpOrd (P : Program) (ops : Array Oper) (Q : Exit → Act → World → Prop) (S : World → Prop) : List (Nat × Bool) → Act → World → Prop
  | [], a, w => Q .normal a w
  | (i, q) :: r, a, w =>
    match ops[i]? with
    | none => False
    | some o =>
      if q = true then ∃ v, YieldsIf P ops S o v a ∧ wpOrd P ops Q S r (a.put o.dst v) w
      else wpList P ops (Exit.then (fun a' w' => S w' ∧ wpOrd P ops Q S r a' w') Q) [o] a w

def ordB (ops : Array Oper) : List (Nat × Bool) → Array Bool → Bool
  | [], listed => (Region.ready .any ops listed).isEmpty
  | (i, true) :: r, listed => (Region.ready .any ops listed).contains i && Region.free .any ops listed i && ordB ops r (listed.setIfInBounds i true)
  | (i, false) :: r, listed => decide (Region.ready .any ops listed = [i]) && ordB ops r (listed.setIfInBounds i true)

theorem wp_then {o : Oper} {a : Act} {w : World} {K K' : Act → World → Prop} (h : o.wp P a w K (Exit.then K' Q)) : o.wp P a w K Q := by
  unfold Oper.wp at *
  generalize (execOp a.eval o).run P w = r at *
  cases r with
  | ok n w' => cases n <;> exact h
  | halt x w' => cases x <;> exact h

theorem wpAnyH_of_ord (hsel : Region.noSelect ops = true) (hQ : ∀ c a d v w, Q (.panic c) (a.put d v) w → Q (.panic c) a w) :
    ∀ (l : List (Nat × Bool)) (listed : Array Bool) (a : Act) (w : World), ordB ops l listed = true → S w → wpOrd P ops Q S l a w → wpAnyH P .any ops Q S l.length listed a w
  | [], listed, a, w, hB, _, h => wpAnyH_done (by simpa [ordB] using hB) h 0
  | (i, true) :: r, listed, a, w, hB, hS, h => by
    simp only [ordB, Bool.and_eq_true] at hB
    obtain ⟨⟨hr, hf⟩, hB'⟩ := hB
    simp only [wpOrd] at h
    cases ho : ops[i]? with
    | none => simp [ho] at h
    | some o =>
      simp only [ho, if_true] at h
      obtain ⟨v, hy, hn⟩ := h
      exact wpAnyH_take ho hsel hf hr (fun c a w => hQ c a _ _ w) hy hS (wpAnyH_of_ord hsel hQ r _ _ w hB' hS hn)
  | (i, false) :: r, listed, a, w, hB, hS, h => by
    simp only [ordB, Bool.and_eq_true, decide_eq_true_eq] at hB
    obtain ⟨hr, hB'⟩ := hB
    simp only [wpOrd, Bool.false_eq_true, if_false] at h
    refine wpAnyH_all hr (by simp) ?_
    intro j hj
    have hji : j = i := by simpa using hj
    subst hji
    unfold wpOp
    cases ho : ops[j]? with
    | none => simp [ho] at h
    | some o =>
      simp only [ho, wpList] at h ⊢
      split
      · rename_i hw
        simp only [hw, if_true] at h
        exact h.imp (fun h => Oper.wp_mono (fun a' w' h' => ⟨h'.1, wpAnyH_of_ord hsel hQ r _ _ w' hB' h'.1 h'.2⟩) (wp_then h)) id
      · rename_i hw
        simp only [hw] at h
        exact ⟨h.1, wpAnyH_of_ord hsel hQ r _ _ w hB' h.1 h.2⟩

theorem wp_region_ord {id : Nat} {a : Act} {w : World} {l : List Oper} (S : World → Prop) (pi : List (Nat × Bool)) (hm : P.follows .mixedOrders = true)
    (hB : (Region.noSelect l.toArray && ordB l.toArray pi (Array.replicate l.toArray.size false) && decide (pi.length = l.toArray.size)) = true)
    (hQ : ∀ c a d v w, Q (.panic c) (a.put d v) w → Q (.panic c) a w) (hS : S w.drew) (h : wpOrd P l.toArray Q S pi a w.drew) : (Code.region id l.toArray true).wp P Q a w := by
  simp only [Bool.and_eq_true, decide_eq_true_eq] at hB
  refine wp_region_held (S := S) hm ?_
  have := wpAnyH_of_ord hB.1.1 hQ pi _ a _ hB.1.2 hS h
  rwa [hB.2] at this

theorem ord_q {i : Nat} {o : Oper} {r : List (Nat × Bool)} {a : Act} {w : World} {v : Value} (ho : ops[i]? = some o) (hw : Region.wanted o (yielded ops a.tmps) = true)
    (hy : ∀ w', S w' → (execOp a.eval o).run P w' = .ok (.value v) w') (h : wpOrd P ops Q S r (a.put o.dst v) w) : wpOrd P ops Q S ((i, true) :: r) a w := by
  simp only [wpOrd, ho, if_true]
  exact ⟨v, .inl ⟨hw, hy⟩, h⟩
theorem ord_q_move {i : Nat} {o : Oper} {r : List (Nat × Bool)} {a : Act} {w : World} (x : Operand) (ho : ops[i]? = some o) (hw : Region.wanted o (yielded ops a.tmps) = true) (hop : o.op = .move x)
    (h : wpOrd P ops Q S r (a.put o.dst (a.eval x)) w) : wpOrd P ops Q S ((i, true) :: r) a w :=
  ord_q ho hw (fun w' _ => by unfold execOp; simp [hop]) h
theorem ord_q_skip {i : Nat} {o : Oper} {r : List (Nat × Bool)} {a : Act} {w : World} (ho : ops[i]? = some o) (hw : Region.wanted o (yielded ops a.tmps) = false)
    (h : wpOrd P ops Q S r (a.put o.dst undef) w) : wpOrd P ops Q S ((i, true) :: r) a w := by
  simp only [wpOrd, ho, if_true]
  exact ⟨undef, .inr ⟨hw, rfl⟩, h⟩
theorem ord_e {i : Nat} {o : Oper} {r : List (Nat × Bool)} {a : Act} {w : World} (ho : ops[i]? = some o)
    (h : ∀ K : Act → World → Prop, Shut (∀ a' w', S w' → wpOrd P ops Q S r a' w' → K a' w') → wpList P ops (Exit.then K Q) [o] a w) : wpOrd P ops Q S ((i, false) :: r) a w := by
  simp only [wpOrd, ho, Bool.false_eq_true, if_false]
  exact h _ (fun a' w' h1 h2 => ⟨h1, h2⟩)
theorem ord_done {a : Act} {w : World} (h : Q .normal a w) : wpOrd P ops Q S [] a w := h
end

/-! The same where S says: below the heap's size at the region's head all blocks but `row` are as they were. -/
section
variable {P : Program} {ops : Array Oper} {Q : Exit → Act → World → Prop}

theorem grown_drew (w : World) (row : Option Nat) : w.grownBy w.drew row := ⟨rfl, rfl, rfl, Nat.le_refl _, fun _ _ _ => rfl⟩
theorem grown_trans {a b c : World} {row : Option Nat} (h : a.grownBy b row) (k : b.grownBy c row) : a.grownBy c row :=
  ⟨k.os.trans h.os, k.tape.trans h.tape, k.output.trans h.output, Nat.le_trans h.size k.size, fun i hi hr => (k.block i (Nat.lt_of_lt_of_le hi h.size) hr).trans (h.block i hi hr)⟩
theorem grown_below {a b : World} {B : Nat} {row : Option Nat} (h : Below B a b) (hB : a.heap.size ≤ B) : a.grownBy b row :=
  ⟨h.os, h.tape, h.output, h.size, fun i hi _ => h.block i (by omega)⟩
theorem below_grown {a b : World} {B : Nat} {row : Option Nat} (h : a.grownBy b row) (hB : B ≤ a.heap.size) (hr : ∀ g, row = some g → B ≤ g) : Below B a b :=
  ⟨h.os, h.tape, h.output, h.size, fun i hi => h.block i (by omega) (fun e => by have := hr i e.symm; omega)⟩

theorem wp_region_ordB {id : Nat} {a : Act} {w : World} {l : List Oper} (row : Option Nat) (pi : List (Nat × Bool)) (hm : P.follows .mixedOrders = true)
    (hB : (Region.noSelect l.toArray && ordB l.toArray pi (Array.replicate l.toArray.size false) && decide (pi.length = l.toArray.size)) = true)
    (h : w.grownBy w.drew row → wpOrd P l.toArray (NoPanic Q) (fun w' => w.grownBy w' row) pi a w.drew) : (Code.region id l.toArray true).wp P Q a w :=
  wp_region_noPanic (wp_region_ord (fun w' => w.grownBy w' row) pi hm hB (fun _ _ _ _ _ h => h) (grown_drew w row) (h (grown_drew w row)))
/-- A region that does not draw goes in the order of its text: the same steps serve. -/
theorem wpOps_of_ord {S : World → Prop} : ∀ (l : List (Nat × Bool)) (a : Act) (w : World), S w → wpOrd P ops Q S l a w → wpOps P ops Q (l.map (·.1)) a w
  | [], _, _, _, h => h
  | (i, true) :: r, a, w, hS, h => by
    simp only [wpOrd] at h
    cases ho : ops[i]? with
    | none => simp [ho] at h
    | some o =>
      simp only [ho, if_true] at h
      obtain ⟨v, hy, hn⟩ := h
      have ih := wpOps_of_ord r _ w hS hn
      rw [List.map_cons, wpOps_cons]
      exact hy.wpOp ho hS ih
  | (i, false) :: r, a, w, hS, h => by
    simp only [wpOrd, Bool.false_eq_true, if_false] at h
    rw [List.map_cons, wpOps_cons]
    unfold wpOp
    cases ho : ops[i]? with
    | none => simp [ho] at h
    | some o =>
      simp only [ho, wpList] at h ⊢
      split
      · rename_i hw
        simp only [hw, if_true] at h
        exact h.imp (fun h => Oper.wp_mono (fun a' w' h' => wpOps_of_ord r _ w' h'.1 h'.2) (wp_then h)) id
      · rename_i hw
        simp only [hw] at h
        exact wpOps_of_ord r _ w h.1 h.2
theorem wp_region_textB {id : Nat} {a : Act} {w : World} {l : List Oper} (row : Option Nat) (pi : List (Nat × Bool))
    (hB : decide (pi.map (·.1) = List.range l.toArray.size) = true)
    (h : w.grownBy w row → wpOrd P l.toArray (NoPanic Q) (fun w' => w.grownBy w' row) pi a w) : (Code.region id l.toArray false).wp P Q a w := by
  have hS : w.grownBy w row := ⟨rfl, rfl, rfl, Nat.le_refl _, fun _ _ _ => rfl⟩
  refine wp_region_noPanic (wp_region ?_)
  rw [← of_decide_eq_true hB]
  exact wpOps_of_ord (S := fun w' => w.grownBy w' row) pi a w hS (h hS)
theorem ord_end {a : Act} {w : World} {S : World → Prop} (h : Q .normal a w) : wpOrd P ops (NoPanic Q) S [] a w := h

/-! The steps, at a region that is written out. -/
theorem ord_qB {l : List Oper} {i : Nat} {o : Oper} {r : List (Nat × Bool)} {a : Act} {w0 w : World} {row : Option Nat} {v : Value} (ho : l[i]? = some o) (hw : Region.wanted o (yielded l.toArray a.tmps) = true)
    (hy : ∀ w', (∀ b off, b < w0.heap.size → some b ≠ row → w'.cell? ⟨b, off, none⟩ = w0.cell? ⟨b, off, none⟩) → (execOp a.eval o).run P w' = .ok (.value v) w')
    (h : wpOrd P l.toArray Q (fun w' => w0.grownBy w' row) r (a.put o.dst v) w) : wpOrd P l.toArray Q (fun w' => w0.grownBy w' row) ((i, true) :: r) a w :=
  ord_q (by simpa using ho) hw (fun w' hS => hy w' fun b off hb hr => World.cell?_of_block (w := w0) (a := ⟨b, off, none⟩) (hS.block b hb hr)) h
theorem ord_qE {l : List Oper} {i : Nat} {o : Oper} {r : List (Nat × Bool)} {a : Act} {w0 w : World} {row : Option Nat} (ho : l[i]? = some o) (hw : Region.wanted o (yielded l.toArray a.tmps) = true)
    (h : ∃ v, (∀ w', (∀ b off, b < w0.heap.size → some b ≠ row → w'.cell? ⟨b, off, none⟩ = w0.cell? ⟨b, off, none⟩) → (execOp a.eval o).run P w' = .ok (.value v) w') ∧ wpOrd P l.toArray Q (fun w' => w0.grownBy w' row) r (a.put o.dst v) w) :
    wpOrd P l.toArray Q (fun w' => w0.grownBy w' row) ((i, true) :: r) a w :=
  let ⟨_, hy, hn⟩ := h
  ord_qB ho hw hy hn
theorem ord_qH {l : List Oper} {i : Nat} {o : Oper} {r : List (Nat × Bool)} {a : Act} {w0 w : World} {row : Option Nat} {v : Value} (ho : l[i]? = some o) (hw : Region.wanted o (yielded l.toArray a.tmps) = true)
    (hy : ∀ w', (∀ b, b < w0.heap.size → some b ≠ row → w'.heap[b]? = w0.heap[b]?) → (execOp a.eval o).run P w' = .ok (.value v) w')
    (h : wpOrd P l.toArray Q (fun w' => w0.grownBy w' row) r (a.put o.dst v) w) : wpOrd P l.toArray Q (fun w' => w0.grownBy w' row) ((i, true) :: r) a w :=
  ord_q (by simpa using ho) hw (fun w' hS => hy w' fun b hb hr => hS.block b hb hr) h
/-- A whole array or struct read out of a block that is known. -/
theorem exec_load_blk {o : Oper} {a : Act} {w : World} {ty : TypeId} {x : Operand} {g : Nat} {t : TypeId} {cs : Array Value} {d : TypeDesc} (ho : o.op = .load ty x) (hx : a.eval x = .pointer (some ⟨g, 0, none⟩)) (hb : Blk w g t cs)
    (hu : P.underlying ty = some d) (hd : (match d with | .struct _ | .array _ _ => true | _ => false) = true) (hi : (P.info? ty).map (·.size) = some cs.size) :
    (execOp a.eval o).run P w = .ok (.value (.agg cs)) w := by
  unfold execOp
  simp [ho, hx, Instr.loadAt, Instr.sureAddr, run_loadVar_row w g t ty cs (0, 0) d hb hu hd hi]
theorem ord_moveB {l : List Oper} {S : World → Prop} {i : Nat} {o : Oper} {r : List (Nat × Bool)} {a : Act} {w : World} {x : Operand} (ho : l[i]? = some o) (hw : Region.wanted o (yielded l.toArray a.tmps) = true)
    (hop : o.op = .move x ∨ o.op = .assign x) (h : wpOrd P l.toArray Q S r (a.put o.dst (a.eval x)) w) : wpOrd P l.toArray Q S ((i, true) :: r) a w :=
  ord_q (by simpa using ho) hw (fun w' _ => by unfold execOp; rcases hop with h | h <;> simp [h]) h
theorem ord_skipB {l : List Oper} {S : World → Prop} {i : Nat} {o : Oper} {r : List (Nat × Bool)} {a : Act} {w : World} (ho : l[i]? = some o) (hw : Region.wanted o (yielded l.toArray a.tmps) = false)
    (h : wpOrd P l.toArray Q S r (a.put o.dst undef) w) : wpOrd P l.toArray Q S ((i, true) :: r) a w := ord_q_skip (by simpa using ho) hw h
theorem ord_eB {l : List Oper} {S : World → Prop} {i : Nat} {o : Oper} {r : List (Nat × Bool)} {a : Act} {w : World} (ho : l[i]? = some o)
    (h : ∀ K : Act → World → Prop, Shut (∀ a' w', S w' → wpOrd P l.toArray Q S r a' w' → K a' w') → wpList P l.toArray (Exit.then K Q) [o] a w) : wpOrd P l.toArray Q S ((i, false) :: r) a w :=
  ord_e (by simpa using ho) h
end
/-- A scope with one label to which the run jumps back: what holds at every jump is J; a pass from the label on lowers the measure. -/
theorem wp_scope_J {P : Program} {Q : Exit → Act → World → Prop} {a : Act} {w : World} {c R : Code} (lb : Nat) (J : Act → World → Prop) (mu : Act → World → Nat) (hf : findLabel c lb = some (.seq .skip R))
    (pass : ∀ a w, J a w → R.wp P (Exit.jump lb (fun a' w' => J a' w' ∧ mu a' w' < mu a w) Q) a w)
    (first : (∀ a w, J a w → R.wp P (Exit.jump lb J Q) a w) → c.wp P (Exit.jump lb J Q) a w) : (Code.scope c).wp P Q a w :=
  wp_scope_jumps lb J mu hf (first fun a w hJ => Code.wp_mono (fun e a' w' h => by
    cases e <;> first | exact h | exact ⟨h.1, h.2.1⟩) (pass a w hJ)) (fun a w hJ => wp_seq (wp_skip (pass a w hJ)))
theorem wp_at_label {P : Program} {Q : Exit → Act → World → Prop} {a : Act} {w : World} {R : Code} {lb : Nat} (h : R.wp P Q a w) : (Code.seq (.label lb) R).wp P Q a w := wp_seq (wp_label h)
end Go.Proofs.Ytdofehgoeppnmaa
