/- A region inside a round whose last operation turns what the region has read; the marks that loops over functions leave. -/
import Derived.Test.YtcnpncieibmngaaRound
import Derived.RangeFuncLeaves
import Derived.RangeFuncWrites
import Derived.RangeFuncNested
import Derived.ControlIn
namespace Go.Proofs.Ytcnpncieibmngaa
open Go.RowKit

section
variable {P : Program} {Q : Exit → Act → World → Prop} {lp n : Nat}
theorem wpIn_round_ordG {id : Nat} {a : Act} {w : World} {l : List Oper} (row : Option Nat) (pi : List (Nat × Bool)) (m : Nat) (hm : P.follows .mixedOrders = true)
    (hB : (noDefer l && Region.noSelect l.toArray && ordG l.toArray m pi (Array.replicate l.toArray.size false) && Region.sinkB .any l.toArray m && Region.chainB .any l.toArray m && decide (m < l.toArray.size) && decide (pi.length + 1 = l.toArray.size)) = true)
    (h : w.grownBy w.drew row → wpOrd P l.toArray (TailQ P l.toArray m (NoPanic (OnlyN Q))) (fun w' => w.grownBy w' row) pi a w.drew) : (Code.region id l.toArray true).wpIn (Fence.wide.inRound lp) n P Q a w := by
  simp only [Bool.and_eq_true, decide_eq_true_eq] at hB
  obtain ⟨⟨⟨⟨⟨⟨h0, h1⟩, h2⟩, h3⟩, h4⟩, h5⟩, h6⟩ := hB
  refine wpIn_region_draw fun t => ?_
  refine ops_round (noDefer_spec h0) _ _ _ ?_
  simp only [Region.schedule, hm, Bool.true_or, if_true]
  refine wpAny_sound _ _ _ _ _ (wpAny_of_G (n := m) (Q := NoPanic (OnlyN Q)) (S := fun w' => w.grownBy w' row) _ _ _ _ ?_)
  have inv : HeadInv .any l.toArray m (Array.replicate l.toArray.size false) := ⟨by simp, fun j oj _ hl => (by rw [getD_replicate_false] at hl; cases hl), fun t ht ht' => by simp at ht'; simp [ht']⟩
  have := wpAnyG_of_ord (P := P) (Q := NoPanic (OnlyN Q)) (S := fun w' => w.grownBy w' row) h1 (fun _ _ _ _ _ h => h) h3 h4 h5 pi _ a _ inv h2 (grown_drew w row) (h (grown_drew w row))
  rw [h6] at this
  exact this
end
/-- What cells and maps a turn of other blocks leaves alone. -/
def collected (D : Nat) : Deferred := { target := .collected D, args := #[] }
theorem leaves_marks {n : Nat} {P : Program} {fn : Func} {tmps : Array Value} {R : Ending → World → Prop} {base : Nat} : ∀ (Ds : List Nat) (W : World), Ds.Nodup → (∀ D ∈ Ds, base ≤ D ∧ W.heap[D]? = some (.deferred (some []))) →
    (∀ W', Below base W W' → (∀ (g : Nat) (cs : Array Value) (t : TypeId) (p : Nat × Nat), W.heap[g]? = some (.cells cs t p) → W'.heap[g]? = some (.cells cs t p)) → LeavesInM Fence.wide n P fn tmps R [] .returning W') →
    LeavesInM Fence.wide n P fn tmps R (Ds.map collected) .returning W
  | [], W, _, _, h => h W (Below.refl _ _) (fun _ _ _ _ h => h)
  | D :: Ds, W, hn, hD, h => by
    obtain ⟨hb, hk⟩ := hD D (by simp)
    obtain ⟨hnd, hn'⟩ := List.nodup_cons.1 hn
    refine ⟨by simp, .inl ⟨D, _, rfl, run_takeDeferred hk, leaves_marks (base := base) Ds _ hn' (fun E hE => ?_) fun W' hB hc => ?_⟩⟩
    · obtain ⟨h1, h2⟩ := hD E (List.mem_cons_of_mem _ hE)
      refine ⟨h1, ?_⟩
      rw [World.putObj_heap_other (show E ≠ D from fun e => hnd (by rw [← e]; exact hE))]
      exact h2
    · have hg := grownBy_putObj' W D (.deferred none)
      refine h W' (((Below.refl base W).grown hg (by have := (Array.getElem?_eq_some_iff.1 hk).1; omega) (fun k e => by cases e; omega)).trans hB) fun g cs t p hg' => hc g cs t p ?_
      rw [World.putObj_heap_other (show g ≠ D from fun e => by rw [e, hk] at hg'; cases hg')]
      exact hg'
end Go.Proofs.Ytcnpncieibmngaa
