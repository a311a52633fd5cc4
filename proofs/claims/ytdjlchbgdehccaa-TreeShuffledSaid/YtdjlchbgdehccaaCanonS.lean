/- Both Canons say one: tree.Canon's answer and the document's. -/
import Derived.Test.YtdjlchbgdehccaaCanonT
import Derived.Test.YtdjlchbgdehccaaRCanon
import Derived.Test.YtdjlchbgdehccaaFormP
namespace Go.Proofs.Ytdjlchbgdehccaa
open Go.RowKit

theorem formB_congr {u v : TV} (h1 : u.nodes = v.nodes) (h2 : u.fn = v.fn) (h3 : u.files.map (·.mode) = v.files.map (·.mode)) : formB u = formB v := by
  have e : ∀ fs : List FC, (fs.all fun x => okMode x.mode) = (fs.map (·.mode)).all okMode := fun fs => by rw [List.all_map]; rfl
  unfold formB
  rw [h1, h2, e, e, h3]
/-- A tree put in order is no greater than the tree that it came from. -/
theorem canoned_bound {t : TV} {ds : List ByteArray} {W w : World} {base : Nat} {S : List Node} {u : TV} (hT : TreeD W t ds) (hb : boundB t = false) (hbad : ∀ x ∈ t.nodes, badFile t.fn x = false) (h : Canoned t.nodes (treeF t ds) base w S u) : boundB u = false := by
  have hbd : t.nn ≤ 256 ∧ t.fn ≤ 256 ∧ ∀ x ∈ t.files, x.n ≤ 8192 := by
    simp only [boundB, Bool.or_eq_false_iff, decide_eq_false_iff_not, anyLong, List.any_eq_false] at hb
    exact ⟨by omega, by omega, fun x hx => by have := hb.2 x hx; simpa using this⟩
  have hl := h.perm.length_eq
  rw [hT.tree.nl] at hl
  have hid := idsL_le S
  have hlong : anyLong u.files = false := by
    unfold anyLong
    rw [List.any_eq_false]
    intro x hx
    obtain ⟨k, hk⟩ := List.getElem?_of_mem hx
    have hkl : k < (idsL S).length := by have := (List.getElem?_eq_some_iff.1 hk).1; rw [h.fl, h.fn] at this; exact this
    obtain ⟨i, hi⟩ : ∃ i, (idsL S)[k]? = some i := ⟨_, List.getElem?_eq_getElem hkl⟩
    have hr := (h.rows.row k x ((treeF t ds i).2) hk (by rw [List.getElem?_map, hi]; rfl)).1
    obtain ⟨hi0, y, hy, hyi⟩ := (idsL_mem S i).1 (List.mem_of_getElem? hi)
    have hyb := hbad y (h.perm.mem_iff.1 hy)
    simp only [badFile, Bool.or_eq_false_iff, decide_eq_false_iff_not] at hyb
    have hil : i.toNat < t.files.length := by rw [hT.tree.fl]; omega
    obtain ⟨f, hf⟩ : ∃ f, t.files[i.toNat]? = some f := ⟨_, List.getElem?_eq_getElem hil⟩
    obtain ⟨d, hd, hdn, _⟩ := hT.dat.get hf
    have hd2 : (treeF t ds i).2 = d := by unfold treeF; rw [hd]; rfl
    rw [hd2, hdn] at hr
    have := hbd.2.2 f (List.mem_of_getElem? hf)
    simp only [decide_eq_true_eq]
    omega
  unfold boundB
  rw [hlong]
  have h1 := h.nn; have h2 := h.fn
  simp only [Bool.or_false, Bool.or_eq_false_iff, decide_eq_false_iff_not]
  omega
theorem canon_eq {t : TV} {ds : List ByteArray} {W w1 w2 : World} {b1 b2 : Nat} {S1 S2 : List Node} {u1 u2 : TV} (hT : TreeD W t ds) (hb : boundB t = false) (hbad : ∀ x ∈ t.nodes, badFile t.fn x = false)
    (h1 : Canoned t.nodes (treeF t ds) b1 w1 S1 u1) (h2 : Canoned t.nodes (treeF t ds) b2 w2 S2 u2) : (looseE u1 = 0 ↔ formB u2 = true) ∧ (looseE u1 = 0 → S1 = S2 ∧ exactB u1 u2 ((idsL S1).map fun i => (treeF t ds i).2) ((idsL S2).map fun i => (treeF t ds i).2) = true) := by
  have hb1 := canoned_bound hT hb hbad h1
  have hlf : looseE u1 = 0 ↔ formB u1 = true := by
    rw [looseE_form, hb1]
    by_cases h : formB u1 = true
    · simp [h]
    · simp [h]
  have key : Apart t.nodes → S1 = S2 ∧ formB u1 = formB u2 := fun hA => by
    have e := ws_eq h1.perm h2.perm h1.ws h2.ws hA
    subst e
    exact ⟨rfl, formB_congr (by rw [h1.nodes, h2.nodes]) (by rw [h1.fn, h2.fn]) (by rw [h1.modes, h2.modes])⟩
  refine ⟨⟨fun h => ?_, fun h => ?_⟩, fun h => ?_⟩
  · have hf := hlf.1 h
    rw [← (key (canoned_apart h1 hf)).2]; exact hf
  · rw [hlf, (key (canoned_apart h2 h)).2]; exact h
  · have e := (key (canoned_apart h1 (hlf.1 h))).1
    subst e
    exact ⟨rfl, by simp [exactB, h1.nodes, h2.nodes, h1.modes, h2.modes]⟩
end Go.Proofs.Ytdjlchbgdehccaa
