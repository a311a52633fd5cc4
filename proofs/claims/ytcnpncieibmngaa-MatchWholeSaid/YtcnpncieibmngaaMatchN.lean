/- match.names: the paths of each file, and the file of each path. -/
import Derived.Test.YtcnpncieibmngaaMatchU
import Derived.Test.YtcnpncieibmngaaCanonP
namespace Go.Proofs.Ytcnpncieibmngaa
open Go.RowKit

theorem Try.strsT : ElemT Try.prog 40 9 1 16 := ElemT.mk' (z := .string ByteArray.empty) Try.underlying40 (by kernel_rfl) rfl (by decide)
theorem own_frozen' {w : World} {base e sz g n c : Nat} {L : List Value} (h : w.ownsRow base e sz (.slice (some ⟨g, 0, none⟩) n c) n L) (i : Nat) : w.frozen? ⟨g, i, none⟩ = false := by
  rcases h.2 with ⟨h', _⟩ | ⟨g', cap, cur, hv, _, hh, _⟩
  · cases h'
  · injection hv with hv
    injection hv with hv
    injection hv with hv
    rw [hv]
    exact Blk.frozen hh i
theorem fileOf_snoc {l : List Node} {x : Node} (hR : Rises (l ++ [x])) (p : ByteArray) : fileOfP (l ++ [x]) p = if p = x.path then (if x.file < 0 then none else some x.file.toNat) else fileOfP l p := by
  unfold fileOfP
  rw [List.find?_append]
  by_cases e : p = x.path
  · subst e
    rw [if_pos rfl]
    have : l.find? (fun y => decide (y.path = x.path)) = none := by
      rw [List.find?_eq_none]
      intro y hy h
      rw [decide_eq_true_eq] at h
      have := (List.pairwise_append.1 hR).2.2 y hy x (by simp)
      rw [show pathL y = pathL x by unfold pathL; rw [h]] at this
      exact List.lt_irrefl _ this
    rw [this]
    simp
  · rw [if_neg e]
    have : ([x] : List Node).find? (fun y => decide (y.path = p)) = none := by simp; exact fun h => e h.symm
    rw [this, Option.or_none]
theorem names_snoc (l : List Node) (x : Node) (f : Nat) : namesP (l ++ [x]) f = namesP l f ++ if x.file = (f : Int) then [x.path] else [] := by
  unfold namesP
  rw [picks_append]
  congr 1
  split
  · rename_i h; simp [picks, namesF, h]
  · rename_i h; simp [picks, namesF, h]
/-- Rows of texts: a slice of slices of strings that the call owns. -/
structure OfAt (W : World) (base : Nat) (A : Option Addr) (n c : Nat) (rs : List SC) (N : Nat → List ByteArray) : Prop where
  len : rs.length = n
  own : W.ownsRow base 40 1 (.slice A n c) n (rs.flatMap SC.list)
  row : ∀ (k : Nat) (x : SC), rs[k]? = some x → x.n = (N k).length ∧ W.ownsRow base 9 1 (.slice x.A x.n x.c) x.n ((N k).flatMap strOf)
  apart : ∀ (i j : Nat) (x y : SC), rs[i]? = some x → rs[j]? = some y → i ≠ j → ∀ b, blkOf x.A = some b → blkOf y.A ≠ some b
theorem OfAt.fr {W W' : World} {base n c B : Nat} {A : Option Addr} {rs : List SC} {N : Nat → List ByteArray} {xs : List Nat} (h : OfAt W base A n c rs N) (hf : FrM B xs W W') (hx : ∀ g ∈ xs, ∃ ms ck, W.heap[g]? = some (.map ms ck)) : OfAt W' base A n c rs N := by
  have key : ∀ {e sz n c : Nat} {A : Option Addr} {L : List Value}, W.ownsRow base e sz (.slice A n c) n L → ∀ g, blkOf A = some g → g ∉ xs := fun {e sz n c A L} ho g hg hm => by
    obtain ⟨ms, ck, hmm⟩ := hx g hm
    rcases ho.2 with ⟨h', _⟩ | ⟨g', cap, cur, hv, _, hh, _⟩
    · injection h' with h'; rw [h'] at hg; cases hg
    · injection hv with hv
      rw [hv] at hg
      injection hg with hg
      rw [← hg, hh] at hmm
      cases hmm
  exact ⟨h.len, hf.own h.own (by decide) (key h.own), fun k x hk => ⟨(h.row k x hk).1, hf.own (h.row k x hk).2 (by decide) (key (h.row k x hk).2)⟩, h.apart⟩
/-- One text more in a row. -/
theorem OfAt.push {W W' : World} {base n c : Nat} {g : Nat} {rs : List SC} {N N' : Nat → List ByteArray} (h : OfAt W base (some ⟨g, 0, none⟩) n c rs N) {f : Nat} {y : SC} (hy : rs[f]? = some y) {p : ByteArray} (hN : ∀ k, N' k = if k = f then N f ++ [p] else N k) {g2 c2 : Nat} (hG : W.grownBy W' (blkOf y.A))
    (ho : W'.ownsRow base 9 1 (.slice (some ⟨g2, 0, none⟩) (y.n + 1) c2) (y.n + 1) ((N f).flatMap strOf ++ [.string p])) (hat : blkOf y.A = some g2 ∨ W.heap.size ≤ g2) :
    OfAt (W'.setCell ⟨g, f, none⟩ (.slice (some ⟨g2, 0, none⟩) (y.n + 1) c2)) base (some ⟨g, 0, none⟩) n c (rs.set f ⟨some ⟨g2, 0, none⟩, y.n + 1, c2⟩) N' := by
  have hfl : f < rs.length := (List.getElem?_eq_some_iff.1 hy).1
  have hrow := h.row f y hy
  have hneg : ∀ {e n c : Nat} {A : Option Addr} {L : List Value}, e ≠ 40 → W'.ownsRow base e 1 (.slice A n c) n L → ∀ o g', A = some ⟨g', o, none⟩ → g' ≠ g := fun {e n c A L} he ho' o g' hA e2 => by
    have h1 := own_keep h.own fun q o e => hG.block q (own_lt2 (by rw [← e]; exact h.own)).2.1 (row_ne_row h.own hrow.2 (by decide) (by rw [e]; rfl))
    exact row_ne_row ho' h1 he (by rw [hA]; rfl) (by rw [e2]; rfl)
  refine ⟨by rw [List.length_set]; exact h.len, ?_, fun k x hk => ?_, fun i j x z hi hj hij b hb1 hb2 => ?_⟩
  · have h1 := own_keep h.own fun q o e => hG.block q (own_lt2 (by rw [← e]; exact h.own)).2.1 (row_ne_row h.own hrow.2 (by decide) (by rw [e]; rfl))
    have h2 := setc_own (i := f) h1 (.slice (some ⟨g2, 0, none⟩) (y.n + 1) c2)
    have h3 := flat_setj (j := 0) SC.len (x' := ⟨some ⟨g2, 0, none⟩, y.n + 1, c2⟩) hy (by omega) rfl (v := .slice (some ⟨g2, 0, none⟩) (y.n + 1) c2)
    rw [Nat.mul_one, Nat.add_zero] at h3
    rw [← h3]
    exact h2
  · by_cases e : k = f
    · subst e
      rw [List.getElem?_set_self hfl] at hk
      injection hk with hk
      subst hk
      rw [hN, if_pos rfl]
      refine ⟨by rw [List.length_append, ← hrow.1]; rfl, ?_⟩
      rw [List.flatMap_append]
      refine own_keep ho fun q o e => ?_
      exact heap_setCell_other _ ⟨g, k, none⟩ q _ (hneg (by decide) ho o q e)
    · rw [List.getElem?_set_ne (fun h => e h.symm)] at hk
      rw [hN, if_neg e]
      have hr := h.row k x hk
      refine ⟨hr.1, ?_⟩
      have h1 : W'.ownsRow base 9 1 (.slice x.A x.n x.c) x.n ((N k).flatMap strOf) := own_keep hr.2 fun q o e2 => hG.block q (own_lt2 (by rw [← e2]; exact hr.2)).2.1 fun e3 => h.apart k f x y hk hy e q (by rw [e2]; rfl) e3.symm
      exact own_keep h1 fun q o e2 => heap_setCell_other _ ⟨g, f, none⟩ q _ (hneg (by decide) h1 o q e2)
  · have key : ∀ k x b, k ≠ f → rs[k]? = some x → blkOf x.A = some b → g2 ≠ b := fun k x b hkf hk hb e => by
      have hr := h.row k x hk
      obtain ⟨A, nx, cx⟩ := x
      simp only at hb hr
      rcases hat with h1 | h1
      · exact h.apart k f _ y hk hy hkf b hb (by rw [h1, e])
      · cases A with
        | none => cases hb
        | some a =>
          obtain ⟨b', o', s'⟩ := a
          simp only [blkOf, Option.some.injEq] at hb
          subst hb
          have := (own_lt2 hr.2).2.1
          omega
    by_cases e1 : i = f
    · subst e1
      rw [List.getElem?_set_self hfl] at hi
      injection hi with hi
      subst hi
      rw [List.getElem?_set_ne hij] at hj
      injection hb1 with hb1
      exact key j z b (fun h => hij h.symm) hj hb2 hb1
    · rw [List.getElem?_set_ne (fun h => e1 h.symm)] at hi
      by_cases e2 : j = f
      · subst e2
        rw [List.getElem?_set_self hfl] at hj
        injection hj with hj
        subst hj
        injection hb2 with hb2
        exact key i x b e1 hi hb1 hb2
      · rw [List.getElem?_set_ne (fun h => e2 h.symm)] at hj
        exact h.apart i j x z hi hj hij b hb1 hb2
end Go.Proofs.Ytcnpncieibmngaa
