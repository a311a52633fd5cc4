/- A region whose order is open, walked as a tree: where several operations may come up, each gets a branch of its own. -/
import Derived.Test.YthmeffpickejkaaOrd
namespace Go.Proofs.Ythmeffpickejkaa
open Go.RowKit

inductive OT where
  | done
  | q (i : Nat) (r : OT)
  | e1 (i : Nat) (r : OT)
  | e2 (i j : Nat) (ri rj : OT)
  | e3 (i j k : Nat) (ri rj rk : OT)
def OT.high : OT → Nat
  | .done => 0
  | .q _ r => r.high + 1
  | .e1 _ r => r.high + 1
  | .e2 _ _ a b => max a.high b.high + 1
  | .e3 _ _ _ a b c => max a.high (max b.high c.high) + 1

section
variable {P : Program} {ops : Array Oper} {Q : Exit → Act → World → Prop} {S : World → Prop}
def stepE (P : Program) (ops : Array Oper) (Q : Exit → Act → World → Prop) (S : World → Prop) (i : Nat) (K : Act → World → Prop) (a : Act) (w : World) : Prop :=
  match ops[i]? with
  | none => False
  | some o => wpList P ops (Exit.then (fun a' w' => S w' ∧ K a' w') Q) [o] a w
def wpT (P : Program) (ops : Array Oper) (Q : Exit → Act → World → Prop) (S : World → Prop) : OT → Act → World → Prop
  | .done, a, w => Q .normal a w
  | .q i r, a, w => ∃ o v, ops[i]? = some o ∧ YieldsIf P ops S o v a ∧ wpT P ops Q S r (a.put o.dst v) w
  | .e1 i r, a, w => stepE P ops Q S i (wpT P ops Q S r) a w
  | .e2 i j ri rj, a, w => stepE P ops Q S i (wpT P ops Q S ri) a w ∧ stepE P ops Q S j (wpT P ops Q S rj) a w
  | .e3 i j k ri rj rk, a, w => stepE P ops Q S i (wpT P ops Q S ri) a w ∧ stepE P ops Q S j (wpT P ops Q S rj) a w ∧ stepE P ops Q S k (wpT P ops Q S rk) a w
def ordT (ops : Array Oper) : OT → Array Bool → Bool
  | .done, listed => (Region.ready .any ops listed).isEmpty
  | .q i r, listed => (Region.ready .any ops listed).contains i && Region.free .any ops listed i && ordT ops r (listed.setIfInBounds i true)
  | .e1 i r, listed => decide (Region.ready .any ops listed = [i]) && ordT ops r (listed.setIfInBounds i true)
  | .e2 i j ri rj, listed => decide (Region.ready .any ops listed = [i, j]) && ordT ops ri (listed.setIfInBounds i true) && ordT ops rj (listed.setIfInBounds j true)
  | .e3 i j k ri rj rk, listed => decide (Region.ready .any ops listed = [i, j, k]) && ordT ops ri (listed.setIfInBounds i true) && ordT ops rj (listed.setIfInBounds j true) && ordT ops rk (listed.setIfInBounds k true)
theorem stepE_op {i : Nat} {K K' : Act → World → Prop} {a : Act} {w : World} (h : stepE P ops Q S i K a w) (hK : ∀ a' w', S w' → K a' w' → K' a' w') : wpOp P ops Q i (fun a' w' => S w' ∧ K' a' w') a w := by
  unfold stepE at h
  unfold wpOp
  cases ho : ops[i]? with
  | none => simp [ho] at h
  | some o =>
    simp only [ho, wpList] at h ⊢
    split
    · rename_i hw
      simp only [hw, if_true] at h
      exact h.imp (fun h => Oper.wp_mono (fun a' w' h' => ⟨h'.1, hK _ _ h'.1 h'.2⟩) (wp_then h)) id
    · rename_i hw
      simp only [hw] at h
      exact ⟨h.1, hK _ _ h.1 h.2⟩
theorem wpAnyH_of_T (hsel : Region.noSelect ops = true) (hQ : ∀ c a d v w, Q (.panic c) (a.put d v) w → Q (.panic c) a w) :
    ∀ (T : OT) (fuel : Nat) (listed : Array Bool) (a : Act) (w : World), T.high ≤ fuel → ordT ops T listed = true → S w → wpT P ops Q S T a w → wpAnyH P .any ops Q S fuel listed a w
  | .done, fuel, listed, a, w, _, hB, _, h => wpAnyH_done (by simpa [ordT] using hB) h fuel
  | .q i r, 0, _, _, _, hf, _, _, _ => absurd hf (by simp [OT.high])
  | .e1 i r, 0, _, _, _, hf, _, _, _ => absurd hf (by simp [OT.high])
  | .e2 i j ri rj, 0, _, _, _, hf, _, _, _ => absurd hf (by simp [OT.high])
  | .e3 i j k ri rj rk, 0, _, _, _, hf, _, _, _ => absurd hf (by simp [OT.high])
  | .q i r, fuel + 1, listed, a, w, hf, hB, hS, h => by
    simp only [ordT, Bool.and_eq_true] at hB
    obtain ⟨⟨hr, hfr⟩, hB'⟩ := hB
    obtain ⟨o, v, ho, hy, hn⟩ := h
    exact wpAnyH_take ho hsel hfr hr (fun c a w => hQ c a _ _ w) hy hS (wpAnyH_of_T hsel hQ r fuel _ _ w (by simp [OT.high] at hf; omega) hB' hS hn)
  | .e1 i r, fuel + 1, listed, a, w, hf, hB, hS, h => by
    simp only [ordT, Bool.and_eq_true, decide_eq_true_eq] at hB
    refine wpAnyH_all hB.1 (by simp) fun x hx => ?_
    have hx1 : x = i := by simpa using hx
    subst hx1
    exact stepE_op h fun a' w' hS' h' => wpAnyH_of_T hsel hQ r fuel _ a' w' (by simp [OT.high] at hf; omega) hB.2 hS' h'
  | .e2 i j ri rj, fuel + 1, listed, a, w, hf, hB, hS, h => by
    simp only [ordT, Bool.and_eq_true, decide_eq_true_eq] at hB
    simp only [OT.high] at hf
    refine wpAnyH_all hB.1.1 (by simp) fun x hx => ?_
    simp only [List.mem_cons, List.not_mem_nil, or_false] at hx
    rcases hx with rfl | rfl
    · exact stepE_op h.1 fun a' w' hS' h' => wpAnyH_of_T hsel hQ ri fuel _ a' w' (by omega) hB.1.2 hS' h'
    · exact stepE_op h.2 fun a' w' hS' h' => wpAnyH_of_T hsel hQ rj fuel _ a' w' (by omega) hB.2 hS' h'
  | .e3 i j k ri rj rk, fuel + 1, listed, a, w, hf, hB, hS, h => by
    simp only [ordT, Bool.and_eq_true, decide_eq_true_eq] at hB
    simp only [OT.high] at hf
    refine wpAnyH_all hB.1.1.1 (by simp) fun x hx => ?_
    simp only [List.mem_cons, List.not_mem_nil, or_false] at hx
    rcases hx with rfl | rfl | rfl
    · exact stepE_op h.1 fun a' w' hS' h' => wpAnyH_of_T hsel hQ ri fuel _ a' w' (by omega) hB.1.1.2 hS' h'
    · exact stepE_op h.2.1 fun a' w' hS' h' => wpAnyH_of_T hsel hQ rj fuel _ a' w' (by omega) hB.1.2 hS' h'
    · exact stepE_op h.2.2 fun a' w' hS' h' => wpAnyH_of_T hsel hQ rk fuel _ a' w' (by omega) hB.2 hS' h'
theorem wp_region_T {id : Nat} {a : Act} {w : World} {l : List Oper} (row : Option Nat) (T : OT) (hm : P.follows .mixedOrders = true)
    (hB : (Region.noSelect l.toArray && ordT l.toArray T (Array.replicate l.toArray.size false) && decide (T.high ≤ l.toArray.size)) = true)
    (h : w.grownBy w.drew row → wpT P l.toArray (NoPanic Q) (fun w' => w.grownBy w' row) T a w.drew) : (Code.region id l.toArray true).wp P Q a w := by
  simp only [Bool.and_eq_true, decide_eq_true_eq] at hB
  obtain ⟨⟨h1, h2⟩, h3⟩ := hB
  refine wp_region_noPanic (wp_region_held (S := fun w' => w.grownBy w' row) hm ?_)
  exact wpAnyH_of_T h1 (fun _ _ _ _ _ h => h) T _ _ a _ h3 h2 (grown_drew w row) (h (grown_drew w row))
end
/-! The steps, at a region that is written out. -/
section
variable {P : Program} {Q : Exit → Act → World → Prop}
theorem tree_qE {l : List Oper} {i : Nat} {o : Oper} {r : OT} {a : Act} {w0 w : World} {row : Option Nat} (ho : l[i]? = some o) (hw : Region.wanted o (yielded l.toArray a.tmps) = true)
    (h : ∃ v, (∀ w', (∀ b off, b < w0.heap.size → some b ≠ row → w'.cell? ⟨b, off, none⟩ = w0.cell? ⟨b, off, none⟩) → (execOp a.eval o).run P w' = .ok (.value v) w') ∧ wpT P l.toArray Q (fun w' => w0.grownBy w' row) r (a.put o.dst v) w) :
    wpT P l.toArray Q (fun w' => w0.grownBy w' row) (.q i r) a w :=
  let ⟨v, hy, hn⟩ := h
  ⟨o, v, by simpa using ho, .inl ⟨hw, fun w' hS => hy w' fun b off hb hr => World.cell?_of_block (w := w0) (a := ⟨b, off, none⟩) (hS.block b hb hr)⟩, hn⟩
theorem tree_skip {l : List Oper} {S : World → Prop} {i : Nat} {o : Oper} {r : OT} {a : Act} {w : World} (ho : l[i]? = some o) (hw : Region.wanted o (yielded l.toArray a.tmps) = false)
    (h : wpT P l.toArray Q S r (a.put o.dst undef) w) : wpT P l.toArray Q S (.q i r) a w :=
  ⟨o, undef, by simpa using ho, .inr ⟨hw, rfl⟩, h⟩
theorem tree_step {l : List Oper} {S : World → Prop} {i : Nat} {o : Oper} {r : OT} {a : Act} {w : World} (ho : l[i]? = some o)
    (h : ∀ K : Act → World → Prop, Shut (∀ a' w', S w' → wpT P l.toArray Q S r a' w' → K a' w') → wpList P l.toArray (Exit.then K Q) [o] a w) : stepE P l.toArray Q S i (wpT P l.toArray Q S r) a w := by
  have ho' : l.toArray[i]? = some o := by simpa using ho
  simp only [stepE, ho']
  exact h _ (fun a' w' h1 h2 => ⟨h1, h2⟩)
theorem tree_e1 {ops : Array Oper} {S : World → Prop} {i : Nat} {r : OT} {a : Act} {w : World} (h : stepE P ops Q S i (wpT P ops Q S r) a w) : wpT P ops Q S (.e1 i r) a w := h
theorem tree_e2 {ops : Array Oper} {S : World → Prop} {i j : Nat} {r s : OT} {a : Act} {w : World} (h : stepE P ops Q S i (wpT P ops Q S r) a w) (h' : stepE P ops Q S j (wpT P ops Q S s) a w) : wpT P ops Q S (.e2 i j r s) a w := ⟨h, h'⟩
theorem tree_e3 {ops : Array Oper} {S : World → Prop} {i j k : Nat} {r s t : OT} {a : Act} {w : World} (h : stepE P ops Q S i (wpT P ops Q S r) a w) (h' : stepE P ops Q S j (wpT P ops Q S s) a w) (h'' : stepE P ops Q S k (wpT P ops Q S t) a w) : wpT P ops Q S (.e3 i j k r s t) a w := ⟨h, h', h''⟩
theorem tree_end {ops : Array Oper} {S : World → Prop} {a : Act} {w : World} (h : Q .normal a w) : wpT P ops (NoPanic Q) S .done a w := h
end
end Go.Proofs.Ythmeffpickejkaa
