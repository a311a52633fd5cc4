/- A region inside a round of a range over a function: what the plain walk shows of it holds there too. A region inside a round whose last operation turns what the region has read; the marks that loops over functions leave. -/
import Derived.Test.YtdjlchbgdehccaaKit
import Derived.CallsIn
import Derived.RangeFuncCalls
import Derived.RangeFuncLeaves
import Derived.RangeFuncWrites
import Derived.RangeFuncNested
import Derived.ControlIn

namespace Go.Proofs.Ytdjlchbgdehccaa
open Go.RowKit

def OnlyN (Q : Exit → Act → World → Prop) : Exit → Act → World → Prop := fun e a w => e = .normal ∧ Q .normal a w
section
variable {P : Program} {ops : Array Oper} {Q : Exit → Act → World → Prop} {lp n : Nat}

theorem oper_round {o : Oper} {a : Act} {w : World} {K K' : Act → World → Prop} (hd : ∀ c, o.op ≠ .defer c) (hK : ∀ a w, K a w → K' a w) (h : o.wp P a w K (NoPanic (OnlyN Q))) : o.wpIn (Fence.wide.inRound lp) n P a w K' Q := by
  unfold Oper.wp at h
  unfold Oper.wpIn
  refine ⟨fun _ _ => trivial, ?_⟩
  rw [Oper.semAt_eq _ _ _ hd]
  generalize (execOp a.eval o).run P w = r at h ⊢
  cases r with
  | ok x w' =>
    cases x <;> simp only [Oper.upon] at h <;> simp only [Oper.uponIn]
    case value v => exact hK _ _ h
    case skip => exact hK _ _ h
    case defer d => exact hK _ _ h
    case enter f args =>
      refine ⟨fun h => (by simp [Fence.wide] at h), CallsIn.inRound lp (callsIn_wide.2 (Calls.mono h ?_))⟩
      intro e w'' he
      cases e with
      | returned v => exact hK _ _ he
      | panicked c => exact (he : False).elim
      | outgrown => obtain ⟨a, w, h1⟩ := he; exact nomatch h1.1
    case row row args =>
      refine ⟨fun h => (by simp [Fence.wide] at h), ?_⟩
      exact fun c cs _ => let ⟨v, w', r, s⟩ := h c cs; ⟨v, w', hK _ _ r, stepsIn_wide.2 s⟩
  | halt x w' =>
    cases x <;> simp only [Oper.upon] at h
    case panic v => exact (h : False).elim
theorem ops_round (hnd : ∀ (i : Nat) (o : Oper), ops[i]? = some o → ∀ c, o.op ≠ .defer c) : ∀ (l : List Nat) (a : Act) (w : World), wpOps P ops (NoPanic (OnlyN Q)) l a w → wpOpsIn (Fence.wide.inRound lp) n P ops Q l a w
  | [], _, _, h => h.2
  | i :: r, a, w, h => by
    unfold wpOps at h
    unfold wpOpsIn
    cases ho : ops[i]? with
    | none => simp only [ho] at h; exact ops_round hnd r a w h
    | some o =>
      simp only [ho] at h ⊢
      split
      · rename_i hw
        rw [if_pos hw] at h
        rcases h with h | ⟨_, a, w, h1⟩
        · exact oper_round (hnd i o ho) (ops_round hnd r) h
        · exact nomatch h1.1
      · rename_i hw
        rw [if_neg hw] at h
        exact ⟨fun _ _ => trivial, ops_round hnd r _ w h⟩
def noDefer (l : List Oper) : Bool := l.all fun o => match o.op with | .defer _ => false | _ => true
theorem noDefer_spec {l : List Oper} (h : noDefer l = true) (i : Nat) (o : Oper) (ho : l.toArray[i]? = some o) : ∀ c, o.op ≠ .defer c := by
  intro c e
  have hm : o ∈ l := List.mem_of_getElem? (by simpa using ho)
  have := List.all_eq_true.1 h o hm
  rw [e] at this
  cases this
theorem wpIn_round_ordB {id : Nat} {a : Act} {w : World} {l : List Oper} (row : Option Nat) (pi : List (Nat × Bool)) (hm : P.follows .mixedOrders = true)
    (hB : (noDefer l && Region.noSelect l.toArray && ordB l.toArray pi (Array.replicate l.toArray.size false) && decide (pi.length = l.toArray.size)) = true)
    (h : w.grownBy w.drew row → wpOrd P l.toArray (NoPanic (OnlyN Q)) (fun w' => w.grownBy w' row) pi a w.drew) : (Code.region id l.toArray true).wpIn (Fence.wide.inRound lp) n P Q a w := by
  simp only [Bool.and_eq_true, decide_eq_true_eq] at hB
  refine wpIn_region_draw fun t => ?_
  refine ops_round (noDefer_spec hB.1.1.1) _ _ _ ?_
  simp only [Region.schedule, hm, Bool.true_or, if_true]
  refine wpAny_sound _ _ _ _ _ (wpAny_of_held _ _ _ _ (S := fun w' => w.grownBy w' row) ?_)
  have := wpAnyH_of_ord (P := P) hB.1.1.2 (fun _ _ _ _ _ h => h) pi _ a _ hB.1.2 (grown_drew w row) (h (grown_drew w row))
  rwa [hB.2] at this
theorem wpIn_round_textB {id : Nat} {a : Act} {w : World} {l : List Oper} (row : Option Nat) (pi : List (Nat × Bool))
    (hB : (noDefer l && decide (pi.map (·.1) = List.range l.toArray.size)) = true)
    (h : w.grownBy w row → wpOrd P l.toArray (NoPanic (OnlyN Q)) (fun w' => w.grownBy w' row) pi a w) : (Code.region id l.toArray false).wpIn (Fence.wide.inRound lp) n P Q a w := by
  simp only [Bool.and_eq_true, decide_eq_true_eq] at hB
  have hS : w.grownBy w row := ⟨rfl, rfl, rfl, Nat.le_refl _, fun _ _ _ => rfl⟩
  refine wpIn_region (ops_round (noDefer_spec hB.1) _ _ _ ?_)
  rw [← hB.2]
  exact wpOps_of_ord (S := fun w' => w.grownBy w' row) pi a w hS (h hS)
theorem ord_endN {a : Act} {w : World} {S : World → Prop} (h : Q .normal a w) : wpOrd P ops (NoPanic (OnlyN Q)) S [] a w := ⟨rfl, h⟩
end
end Go.Proofs.Ytdjlchbgdehccaa

namespace Go.Proofs.Ytdjlchbgdehccaa
open Go.RowKit

section
variable {P : Program} {Q : Exit → Act → World → Prop} {lp n : Nat}
theorem wpIn_round_ordG {id : Nat} {a : Act} {w : World} {l : List Oper} (row : Option Nat) (pi : List (Nat × Bool)) (m : Nat) (hm : P.follows .mixedOrders = true)
    (hB : (noDefer l && Region.noSelect l.toArray && ordG l.toArray m pi (Array.replicate l.toArray.size false) && Region.sinkB .any l.toArray m && Region.chainB .any l.toArray m && decide (m < l.toArray.size) && decide (pi.length + 1 = l.toArray.size)) = true)
    (h : w.grownBy w.drew row → wpOrd P l.toArray (TailQ P l.toArray m (NoPanic (OnlyN Q))) (fun w' => w.grownBy w' row) pi a w.drew) : (Code.region id l.toArray true).wpIn (Fence.wide.inRound lp) n P Q a w := by
  simp only [Bool.and_eq_true, decide_eq_true_eq] at hB
  obtain ⟨⟨⟨⟨⟨⟨h0, h1⟩, h2⟩, h3⟩, h4⟩, h5⟩, h6⟩ := hB
  refine wpIn_region_draw fun t => ?_
  refine ops_round (noDefer_spec h0) _ _ _ ?_
  simp only [Region.schedule, hm, Bool.true_or, if_true]
  refine wpAny_sound _ _ _ _ _ (wpAny_of_G (n := m) (Q := NoPanic (OnlyN Q)) (S := fun w' => w.grownBy w' row) _ _ _ _ ?_)
  have inv : HeadInv .any l.toArray m (Array.replicate l.toArray.size false) := ⟨by simp, fun j oj _ hl => (by rw [getD_replicate_false] at hl; cases hl), fun t ht ht' => by simp at ht'; simp [ht']⟩
  have := wpAnyG_of_ord (P := P) (Q := NoPanic (OnlyN Q)) (S := fun w' => w.grownBy w' row) h1 (fun _ _ _ _ _ h => h) h3 h4 h5 pi _ a _ inv h2 (grown_drew w row) (h (grown_drew w row))
  rw [h6] at this
  exact this
end
/-- What cells and maps a turn of other blocks leaves alone. -/
def collected (D : Nat) : Deferred := { target := .collected D, args := #[] }
theorem leaves_marks {n : Nat} {P : Program} {fn : Func} {tmps : Array Value} {R : Ending → World → Prop} {base : Nat} : ∀ (Ds : List Nat) (W : World), Ds.Nodup → (∀ D ∈ Ds, base ≤ D ∧ W.heap[D]? = some (.deferred (some []))) →
    (∀ W', Below base W W' → (∀ (g : Nat) (cs : Array Value) (t : TypeId) (p : Nat × Nat), W.heap[g]? = some (.cells cs t p) → W'.heap[g]? = some (.cells cs t p)) → LeavesInM Fence.wide n P fn tmps R [] .returning W') →
    LeavesInM Fence.wide n P fn tmps R (Ds.map collected) .returning W
  | [], W, _, _, h => h W (Below.refl _ _) (fun _ _ _ _ h => h)
  | D :: Ds, W, hn, hD, h => by
    obtain ⟨hb, hk⟩ := hD D (by simp)
    obtain ⟨hnd, hn'⟩ := List.nodup_cons.1 hn
    refine ⟨by simp, .inl ⟨D, _, rfl, run_takeDeferred hk, leaves_marks (base := base) Ds _ hn' (fun E hE => ?_) fun W' hB hc => ?_⟩⟩
    · obtain ⟨h1, h2⟩ := hD E (List.mem_cons_of_mem _ hE)
      refine ⟨h1, ?_⟩
      rw [World.putObj_heap_other (show E ≠ D from fun e => hnd (by rw [← e]; exact hE))]
      exact h2
    · have hg := grownBy_putObj' W D (.deferred none)
      refine h W' (((Below.refl base W).grown hg (by have := (Array.getElem?_eq_some_iff.1 hk).1; omega) (fun k e => by cases e; omega)).trans hB) fun g cs t p hg' => hc g cs t p ?_
      rw [World.putObj_heap_other (show g ≠ D from fun e => by rw [e, hk] at hg'; cases hg')]
      exact hg'
end Go.Proofs.Ytdjlchbgdehccaa
