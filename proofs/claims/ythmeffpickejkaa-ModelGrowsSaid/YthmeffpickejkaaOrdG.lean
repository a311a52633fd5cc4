/- A region whose order is open and whose last operation, for which all others wait, may break what the others keep. -/
import Derived.Test.YthmeffpickejkaaOrd
import Derived.StillTail
namespace Go.Proofs.Ythmeffpickejkaa
open Go.RowKit

section
variable {P : Program} {ops : Array Oper} {Q : Exit → Act → World → Prop} {S : World → Prop}

def wpAnyG (P : Program) (ops : Array Oper) (Q : Exit → Act → World → Prop) (S : World → Prop) (n : Nat) : Nat → Array Bool → Act → World → Prop
  | 0, listed, a, w => Region.ready .any ops listed = [] ∧ Q .normal a w
  | fuel + 1, listed, a, w =>
    (Region.ready .any ops listed = [] → Q .normal a w) ∧
    ∀ i ∈ Region.ready .any ops listed, wpOp P ops Q i (fun a' w' => (i < n → S w') ∧ wpAnyG P ops Q S n fuel (listed.setIfInBounds i true) a' w') a w
theorem wpAny_of_G {n : Nat} : ∀ (fuel : Nat) (listed : Array Bool) (a : Act) (w : World), wpAnyG P ops Q S n fuel listed a w → wpAny P .any ops Q fuel listed a w
  | 0, _, _, _, h => h
  | fuel + 1, _, _, _, h => ⟨h.1, fun i hi => wpOp_mono (fun a' w' h' => wpAny_of_G fuel _ a' w' h'.2) (h.2 i hi)⟩
theorem wpAnyG_first {n i : Nat} {oi : Oper} {v : Value} (hi : ops[i]? = some oi) (hsel : ∀ (j : Nat) (o : Oper) cs b, ops[j]? = some o → o.op ≠ .select cs b)
    (hQ : ∀ c a w, Q (.panic c) (a.put oi.dst v) w → Q (.panic c) a w) (hs : Region.sinkB .any ops n = true) (hc : Region.chainB .any ops n = true) (hn : n < ops.size) (hin : i < n) :
    ∀ (fuel : Nat) (listed : Array Bool) (a : Act) (w : World), HeadInv .any ops n listed →
      (∀ j oj, ops[j]? = some oj → j ≠ i → listed.getD j true = false → (∀ e ∈ oj.after, Region.binds .any e = true → e.on ≠ i) → oi.apart ops oj = true) →
      i ∈ Region.ready .any ops listed → YieldsIf P ops S oi v a → S w →
      wpAnyG P ops Q S n fuel (listed.setIfInBounds i true) (a.put oi.dst v) w → wpAnyG P ops Q S n (fuel + 1) listed a w := by
  intro fuel
  induction fuel with
  | zero =>
    intro listed a w _ _ hr hy hS H
    refine ⟨fun h => (by rw [h] at hr; cases hr), fun j hj => ?_⟩
    by_cases hji : j = i
    · subst hji; exact hy.wpOp hi hS ⟨fun _ => hS, H⟩
    · have := ready_mono hj hji
      rw [H.1] at this
      cases this
  | succ fuel ih =>
    intro listed a w inv hfree hr hy hS H
    refine ⟨fun h => (by rw [h] at hr; cases hr), fun j hj => ?_⟩
    by_cases hji : j = i
    · subst hji; exact hy.wpOp hi hS ⟨fun _ => hS, H⟩
    · have hun := (mem_ready.1 hr).1
      have hjn : j < n := by
        rcases Nat.lt_or_ge j n with h | h
        · exact h
        · exact absurd hj (tail_waits hs hc hn inv _ i rfl hin hun j h)
      have h1 := H.2 j (ready_mono hj hji)
      obtain ⟨hjun, oj, hoj, hall⟩ := mem_ready.1 hj
      have hnot : ∀ e ∈ oj.after, Region.binds .any e = true → e.on ≠ i := fun e he hb heq => by
        have h1 := hall e he hb
        have h0 := (mem_ready.1 hr).1
        rw [heq] at h1
        rcases Nat.lt_or_ge i listed.size with h' | h'
        · simp [h'] at h0 h1; rw [h0] at h1; cases h1
        · simp [Array.getElem?_eq_none h'] at h1
      have h2 := wpOp_putIf hoj (hfree j oj hoj hji hjun hnot) (fun cs b => hsel i oi cs b hi) (fun cs b => hsel j oj cs b hoj) hQ hy h1
      have hfree' : ∀ k ok, ops[k]? = some ok → k ≠ i → (listed.setIfInBounds j true).getD k true = false →
          (∀ e ∈ ok.after, Region.binds .any e = true → e.on ≠ i) → oi.apart ops ok = true := fun k ok hk hki hun hno => by
        refine hfree k ok hk hki ?_ hno
        by_cases hjk : j = k
        · subst hjk; exact hjun
        · rw [getD_set_ne true hjk] at hun; exact hun
      refine wpOp_mono (fun a' w' h3 => ⟨fun _ => h3.2.1 hjn, ih (listed.setIfInBounds j true) a' w' (inv.set hj hjn) hfree' (ready_mono hr (Ne.symm hji)) h3.1 (h3.2.1 hjn) ?_⟩) h2
      rw [Array.setIfInBounds_comm _ _ hji]
      exact h3.2.2
def TailQ (P : Program) (ops : Array Oper) (n : Nat) (Q : Exit → Act → World → Prop) : Exit → Act → World → Prop
  | .normal, a, w => wpOp P ops Q n (fun a' w' => Q .normal a' w') a w
  | e, a, w => Q e a w
def ordG (ops : Array Oper) (n : Nat) : List (Nat × Bool) → Array Bool → Bool
  | [], listed => decide (Region.ready .any ops listed = [n]) && (Region.ready .any ops (listed.setIfInBounds n true)).isEmpty
  | (i, true) :: r, listed => decide (i < n) && (Region.ready .any ops listed).contains i && Region.free .any ops listed i && ordG ops n r (listed.setIfInBounds i true)
  | (i, false) :: r, listed => decide (i < n) && decide (Region.ready .any ops listed = [i]) && ordG ops n r (listed.setIfInBounds i true)
theorem wp_tail {o : Oper} {n : Nat} {a : Act} {w : World} {K K' : Act → World → Prop} (h : o.wp P a w K (Exit.then K' (TailQ P ops n Q))) : o.wp P a w K Q := by
  unfold Oper.wp at *
  generalize (execOp a.eval o).run P w = r at *
  cases r with
  | ok n w' => cases n <;> exact h
  | halt x w' => cases x <;> exact h
theorem wpAnyG_of_ord {n : Nat} (hsel : Region.noSelect ops = true) (hQ : ∀ c a d v w, Q (.panic c) (a.put d v) w → Q (.panic c) a w) (hs : Region.sinkB .any ops n = true) (hc : Region.chainB .any ops n = true) (hn : n < ops.size) :
    ∀ (l : List (Nat × Bool)) (listed : Array Bool) (a : Act) (w : World), HeadInv .any ops n listed → ordG ops n l listed = true → S w → wpOrd P ops (TailQ P ops n Q) S l a w → wpAnyG P ops Q S n (l.length + 1) listed a w
  | [], listed, a, w, _, hB, _, h => by
    simp only [ordG, Bool.and_eq_true, decide_eq_true_eq, List.isEmpty_iff] at hB
    refine ⟨fun h0 => (by rw [hB.1] at h0; cases h0), fun j hj => ?_⟩
    rw [hB.1] at hj
    have hjn : j = n := by simpa using hj
    subst hjn
    exact wpOp_mono (fun a' w' h' => ⟨fun h => absurd h (Nat.lt_irrefl _), hB.2, h'⟩) (show wpOp P ops Q j _ a w from h)
  | (i, true) :: r, listed, a, w, inv, hB, hS, h => by
    simp only [ordG, Bool.and_eq_true, decide_eq_true_eq] at hB
    obtain ⟨⟨⟨hin, hr⟩, hf⟩, hB'⟩ := hB
    simp only [wpOrd] at h
    cases ho : ops[i]? with
    | none => simp [ho] at h
    | some o =>
      simp only [ho, if_true] at h
      obtain ⟨v, hy, hnn⟩ := h
      have hr' : i ∈ Region.ready .any ops listed := by simpa using hr
      exact wpAnyG_first ho (Region.noSelect_spec hsel) (fun c a w => hQ c a _ _ w) hs hc hn hin _ listed a w inv (Region.free_spec ho hf) hr' hy hS (wpAnyG_of_ord hsel hQ hs hc hn r _ _ w (inv.set hr' hin) hB' hS hnn)
  | (i, false) :: r, listed, a, w, inv, hB, hS, h => by
    simp only [ordG, Bool.and_eq_true, decide_eq_true_eq] at hB
    obtain ⟨⟨hin, hr⟩, hB'⟩ := hB
    simp only [wpOrd, Bool.false_eq_true, if_false] at h
    refine ⟨fun h0 => (by rw [hr] at h0; cases h0), fun j hj => ?_⟩
    have hj0 := hj
    rw [hr] at hj
    have hji : j = i := by simpa using hj
    subst hji
    unfold wpOp
    cases ho : ops[j]? with
    | none => simp [ho] at h
    | some o =>
      simp only [ho, wpList] at h ⊢
      split
      · rename_i hw
        simp only [hw, if_true] at h
        exact h.imp (fun h => Oper.wp_mono (fun a' w' h' => ⟨fun _ => h'.1, wpAnyG_of_ord hsel hQ hs hc hn r _ _ w' (inv.set hj0 hin) hB' h'.1 h'.2⟩) (wp_tail h)) id
      · rename_i hw
        simp only [hw] at h
        exact ⟨fun _ => h.1, wpAnyG_of_ord hsel hQ hs hc hn r _ _ w (inv.set hj0 hin) hB' h.1 h.2⟩
theorem wp_region_ordG {id : Nat} {a : Act} {w : World} {l : List Oper} (row : Option Nat) (pi : List (Nat × Bool)) (n : Nat) (hm : P.follows .mixedOrders = true)
    (hB : (Region.noSelect l.toArray && ordG l.toArray n pi (Array.replicate l.toArray.size false) && Region.sinkB .any l.toArray n && Region.chainB .any l.toArray n && decide (n < l.toArray.size) && decide (pi.length + 1 = l.toArray.size)) = true)
    (h : w.grownBy w.drew row → wpOrd P l.toArray (TailQ P l.toArray n (NoPanic Q)) (fun w' => w.grownBy w' row) pi a w.drew) : (Code.region id l.toArray true).wp P Q a w := by
  simp only [Bool.and_eq_true, decide_eq_true_eq] at hB
  obtain ⟨⟨⟨⟨⟨h1, h2⟩, h3⟩, h4⟩, h5⟩, h6⟩ := hB
  refine wp_region_noPanic (wp_region_any hm (wpAny_of_G (n := n) (Q := NoPanic Q) (S := fun w' => w.grownBy w' row) _ _ _ _ ?_))
  have inv : HeadInv .any l.toArray n (Array.replicate l.toArray.size false) := ⟨by simp, fun j oj _ hl => (by rw [getD_replicate_false] at hl; cases hl), fun t ht ht' => by simp at ht'; simp [ht']⟩
  have := wpAnyG_of_ord (P := P) (Q := NoPanic Q) (S := fun w' => w.grownBy w' row) h1 (fun _ _ _ _ _ h => h) h3 h4 h5 pi _ a _ inv h2 (grown_drew w row) (h (grown_drew w row))
  rw [h6] at this
  exact this
/-- The last operation. -/
theorem ord_tail {l : List Oper} {S : World → Prop} {n : Nat} {o : Oper} {a : Act} {w : World} (ho : l[n]? = some o)
    (h : ∀ K : Act → World → Prop, Shut (∀ a' w', Q .normal a' w' → K a' w') → wpList P l.toArray (Exit.then K (NoPanic Q)) [o] a w) : wpOrd P l.toArray (TailQ P l.toArray n (NoPanic Q)) S [] a w := by
  have h0 := h (fun a' w' => Q .normal a' w') (fun _ _ h => h)
  show wpOp P l.toArray (NoPanic Q) n _ a w
  unfold wpOp
  have ho' : l.toArray[n]? = some o := by simpa using ho
  simp only [ho', wpList] at h0 ⊢
  split
  · rename_i hw
    simp only [hw, if_true] at h0
    exact h0.imp (fun h => wp_then h) id
  · rename_i hw
    simp only [hw] at h0
    exact h0
end
end Go.Proofs.Ythmeffpickejkaa
