/- A region inside a round of a range over a function: what the plain walk shows of it holds there too. -/
import Derived.Test.YtcnpncieibmngaaKit
import Derived.CallsIn
import Derived.RangeFuncCalls
namespace Go.Proofs.Ytcnpncieibmngaa
open Go.RowKit

def OnlyN (Q : Exit → Act → World → Prop) : Exit → Act → World → Prop := fun e a w => e = .normal ∧ Q .normal a w
section
variable {P : Program} {ops : Array Oper} {Q : Exit → Act → World → Prop} {lp n : Nat}

theorem oper_round {o : Oper} {a : Act} {w : World} {K K' : Act → World → Prop} (hd : ∀ c, o.op ≠ .defer c) (hK : ∀ a w, K a w → K' a w) (h : o.wp P a w K (NoPanic (OnlyN Q))) : o.wpIn (Fence.wide.inRound lp) n P a w K' Q := by
  unfold Oper.wp at h
  unfold Oper.wpIn
  refine ⟨fun _ _ => trivial, ?_⟩
  rw [Oper.semAt_eq _ _ _ hd]
  generalize (execOp a.eval o).run P w = r at h ⊢
  cases r with
  | ok x w' =>
    cases x <;> simp only [Oper.upon] at h <;> simp only [Oper.uponIn]
    case value v => exact hK _ _ h
    case skip => exact hK _ _ h
    case defer d => exact hK _ _ h
    case enter f args =>
      refine ⟨fun h => (by simp [Fence.wide] at h), CallsIn.inRound lp (callsIn_wide.2 (Calls.mono h ?_))⟩
      intro e w'' he
      cases e with
      | returned v => exact hK _ _ he
      | panicked c => exact (he : False).elim
      | outgrown => obtain ⟨a, w, h1⟩ := he; exact nomatch h1.1
    case row row args =>
      refine ⟨fun h => (by simp [Fence.wide] at h), ?_⟩
      exact fun c cs _ => let ⟨v, w', r, s⟩ := h c cs; ⟨v, w', hK _ _ r, stepsIn_wide.2 s⟩
  | halt x w' =>
    cases x <;> simp only [Oper.upon] at h
    case panic v => exact (h : False).elim
theorem ops_round (hnd : ∀ (i : Nat) (o : Oper), ops[i]? = some o → ∀ c, o.op ≠ .defer c) : ∀ (l : List Nat) (a : Act) (w : World), wpOps P ops (NoPanic (OnlyN Q)) l a w → wpOpsIn (Fence.wide.inRound lp) n P ops Q l a w
  | [], _, _, h => h.2
  | i :: r, a, w, h => by
    unfold wpOps at h
    unfold wpOpsIn
    cases ho : ops[i]? with
    | none => simp only [ho] at h; exact ops_round hnd r a w h
    | some o =>
      simp only [ho] at h ⊢
      split
      · rename_i hw
        rw [if_pos hw] at h
        rcases h with h | ⟨_, a, w, h1⟩
        · exact oper_round (hnd i o ho) (ops_round hnd r) h
        · exact nomatch h1.1
      · rename_i hw
        rw [if_neg hw] at h
        exact ⟨fun _ _ => trivial, ops_round hnd r _ w h⟩
def noDefer (l : List Oper) : Bool := l.all fun o => match o.op with | .defer _ => false | _ => true
theorem noDefer_spec {l : List Oper} (h : noDefer l = true) (i : Nat) (o : Oper) (ho : l.toArray[i]? = some o) : ∀ c, o.op ≠ .defer c := by
  intro c e
  have hm : o ∈ l := List.mem_of_getElem? (by simpa using ho)
  have := List.all_eq_true.1 h o hm
  rw [e] at this
  cases this
theorem wpIn_round_ordB {id : Nat} {a : Act} {w : World} {l : List Oper} (row : Option Nat) (pi : List (Nat × Bool)) (hm : P.follows .mixedOrders = true)
    (hB : (noDefer l && Region.noSelect l.toArray && ordB l.toArray pi (Array.replicate l.toArray.size false) && decide (pi.length = l.toArray.size)) = true)
    (h : w.grownBy w.drew row → wpOrd P l.toArray (NoPanic (OnlyN Q)) (fun w' => w.grownBy w' row) pi a w.drew) : (Code.region id l.toArray true).wpIn (Fence.wide.inRound lp) n P Q a w := by
  simp only [Bool.and_eq_true, decide_eq_true_eq] at hB
  refine wpIn_region_draw fun t => ?_
  refine ops_round (noDefer_spec hB.1.1.1) _ _ _ ?_
  simp only [Region.schedule, hm, Bool.true_or, if_true]
  refine wpAny_sound _ _ _ _ _ (wpAny_of_held _ _ _ _ (S := fun w' => w.grownBy w' row) ?_)
  have := wpAnyH_of_ord (P := P) hB.1.1.2 (fun _ _ _ _ _ h => h) pi _ a _ hB.1.2 (grown_drew w row) (h (grown_drew w row))
  rwa [hB.2] at this
theorem wpIn_round_textB {id : Nat} {a : Act} {w : World} {l : List Oper} (row : Option Nat) (pi : List (Nat × Bool))
    (hB : (noDefer l && decide (pi.map (·.1) = List.range l.toArray.size)) = true)
    (h : w.grownBy w row → wpOrd P l.toArray (NoPanic (OnlyN Q)) (fun w' => w.grownBy w' row) pi a w) : (Code.region id l.toArray false).wpIn (Fence.wide.inRound lp) n P Q a w := by
  simp only [Bool.and_eq_true, decide_eq_true_eq] at hB
  have hS : w.grownBy w row := ⟨rfl, rfl, rfl, Nat.le_refl _, fun _ _ _ => rfl⟩
  refine wpIn_region (ops_round (noDefer_spec hB.1) _ _ _ ?_)
  rw [← hB.2]
  exact wpOps_of_ord (S := fun w' => w.grownBy w' row) pi a w hS (h hS)
theorem ord_endN {a : Act} {w : World} {S : World → Prop} (h : Q .normal a w) : wpOrd P ops (NoPanic (OnlyN Q)) S [] a w := ⟨rfl, h⟩
end
end Go.Proofs.Ytcnpncieibmngaa
