/- Plain laws of the list that Run makes: no program in sight. -/
import Derived.Test.YtanaccoelifcpaaPeepRun
namespace Go.Proofs.Ytanaccoelifcpaa
open Go.RowKit

theorem fuse_zero {x y : Ins} {set : Int} (h1 : (bits .and .i64 set 1 == 0) = true) (h2 : (bits .and .i64 set 2 == 0) = true) (h4 : (bits .and .i64 set 4 == 0) = true) : fuse x y set = none := by
  simp [fuse, rulesL, fusedF, h1, h2, h4]
theorem look_zero {set : Int} (h : ∀ x y, fuse x y set = none) : ∀ (f : Nat) (l : List Ins) (p : Nat), look set f l p = l
  | 0, _, _ => rfl
  | f + 1, l, p => by
    simp only [look]
    split
    · simp only [h]; exact look_zero h f _ _
    · rfl
theorem few8 : few 8 = true := by decide
theorem fuse8 (x y : Ins) : fuse x y 8 = none := fuse_zero (by decide) (by decide) (by decide)
theorem fuse0 (x y : Ins) : fuse x y 0 = none := fuse_zero (by decide) (by decide) (by decide)

theorem fusedF_some {x y : Ins} {set : Int} {z : List Ins} {C : Prop} : ∀ (R : List (Int × (Ins → Ins → Option (List Ins)))), (∀ q ∈ R, ∀ z, q.2 x y = some z → (z.length ≤ 1 → x.op ≠ 9 ∧ y.op ≠ 9 ∧ ∀ i ∈ z, i.op ≠ 9)) → fusedF x y set R = some z → z.length ≤ 1 → x.op ≠ 9 ∧ y.op ≠ 9 ∧ ∀ i ∈ z, i.op ≠ 9
  | [], _, h, _ => by cases h
  | (s, r) :: t, hR, h, hz => by
    rw [fusedF] at h
    split at h
    · exact fusedF_some (C := C) t (fun q hq => hR q (List.mem_cons_of_mem _ hq)) h hz
    · split at h
      · rename_i l' hl
        injection h with h; subst h
        exact hR (s, r) (List.mem_cons_self ..) _ hl hz
      · exact fusedF_some (C := C) t (fun q hq => hR q (List.mem_cons_of_mem _ hq)) h hz
theorem fuse_no9 {x y : Ins} {set : Int} {z : List Ins} (h : fuse x y set = some z) : x.op ≠ 9 ∧ y.op ≠ 9 ∧ ∀ i ∈ z, i.op ≠ 9 := by
  refine fusedF_some (C := True) rulesL ?_ h (fuse_le h)
  intro q hq z hz _
  simp only [rulesL, List.mem_cons, List.not_mem_nil, or_false] at hq
  rcases hq with rfl | rfl | rfl | rfl | rfl | rfl | rfl | rfl | rfl | rfl | rfl <;>
    (simp only [rule1, rule2, rule3, rule4, rule5, rule6, rule7, rule8, rule9, rule10, rule11] at hz
     split at hz
     · rename_i hc
       injection hz with hz
       subst hz
       refine ⟨by omega, by omega, ?_⟩
       simp
     · cases hz)

/-- What look makes with fuel enough. -/
def lookC (set : Int) (l : List Ins) (p : Nat) : List Ins := look set (2 * l.length - p) l p
theorem look_C {set : Int} {l : List Ins} {f p : Nat} (h : 2 * l.length - p ≤ f) : look set f l p = lookC set l p := look_fuel set f l p h
theorem lookC_none {set : Int} {l : List Ins} {p : Nat} {x y : Ins} (hx : l[p]? = some x) (hy : l[p + 1]? = some y) (hf : fuse x y set = none) : lookC set l p = lookC set l (p + 1) := p18_look_none hx hy hf
theorem lookC_some {set : Int} {l z : List Ins} {p : Nat} {x y : Ins} (hx : l[p]? = some x) (hy : l[p + 1]? = some y) (hf : fuse x y set = some z) : lookC set l p = lookC set (l.take p ++ z ++ l.drop (p + 2)) (p - 1) := look_some hx hy hf
theorem lookC_end {set : Int} {l : List Ins} {p : Nat} (h : l.length ≤ p + 1) : lookC set l p = l := by
  have h2 : l[p + 1]? = none := List.getElem?_eq_none h
  unfold lookC
  cases 2 * l.length - p with
  | zero => rfl
  | succ k => simp only [look, h2]; split <;> simp_all

/-- What holds at each step of look holds at its end. -/
theorem look_inv {set : Int} (P : List Ins → Nat → Prop) (hn : ∀ l p x y, P l p → l[p]? = some x → l[p + 1]? = some y → fuse x y set = none → P l (p + 1))
    (hs : ∀ l p x y z, P l p → l[p]? = some x → l[p + 1]? = some y → fuse x y set = some z → P (l.take p ++ z ++ l.drop (p + 2)) (p - 1)) :
    ∀ (k : Nat) (l : List Ins) (p : Nat), 2 * l.length - p ≤ k → P l p → ∃ l' p', P l' p' ∧ l'.length ≤ p' + 1 ∧ lookC set l p = l' := by
  intro k
  induction k with
  | zero =>
    intro l p hk hP
    exact ⟨l, p, hP, by omega, lookC_end (by omega)⟩
  | succ k ih =>
    intro l p hk hP
    by_cases hp : p + 1 < l.length
    · have hx : l[p]? = some (l[p]'(by omega)) := List.getElem?_eq_getElem _
      have hy : l[p + 1]? = some (l[p + 1]'hp) := List.getElem?_eq_getElem _
      cases hf : fuse (l[p]'(by omega)) (l[p + 1]'hp) set with
      | none =>
        obtain ⟨l', p', h1, h2, h3⟩ := ih l (p + 1) (by omega) (hn _ _ _ _ hP hx hy hf)
        exact ⟨l', p', h1, h2, (lookC_none hx hy hf).trans h3⟩
      | some z =>
        have hz := fuse_le hf
        have hlen : (l.take p ++ z ++ l.drop (p + 2)).length ≤ l.length - 1 := by simp; omega
        have hlen2 : p ≤ (l.take p ++ z ++ l.drop (p + 2)).length := by simp; omega
        obtain ⟨l', p', h1, h2, h3⟩ := ih _ (p - 1) (by omega) (hs _ _ _ _ _ hP hx hy hf)
        exact ⟨l', p', h1, h2, (lookC_some hx hy hf).trans h3⟩
    · exact ⟨l, p, hP, by omega, lookC_end (by omega)⟩

/-- No two that stand side by side ahead of p are fused. -/
def StillTo (set : Int) (l : List Ins) (p : Nat) : Prop := ∀ j x y, j < p → l[j]? = some x → l[j + 1]? = some y → fuse x y set = none
theorem look_still {set : Int} {l : List Ins} : ∀ (k p : Nat), 2 * l.length - p ≤ k → StillTo set l l.length → lookC set l p = l := by
  intro k
  induction k with
  | zero => intro p hk _; exact lookC_end (by omega)
  | succ k ih =>
    intro p hk h
    by_cases hp : p + 1 < l.length
    · have hx : l[p]? = some (l[p]'(by omega)) := List.getElem?_eq_getElem _
      have hy : l[p + 1]? = some (l[p + 1]'hp) := List.getElem?_eq_getElem _
      rw [lookC_none hx hy (h p _ _ (by omega) hx hy)]
      exact ih (p + 1) (by omega) h
    · exact lookC_end (by omega)
theorem still_of_look (set : Int) (l : List Ins) : StillTo set (lookC set l 0) (lookC set l 0).length := by
  obtain ⟨l', p', h1, h2, h3⟩ := look_inv (set := set) (StillTo set) (fun l p x y h hx hy hf j a b hj ha hb => by
      rcases Nat.lt_or_ge j p with h' | h'
      · exact h j a b h' ha hb
      · obtain rfl : j = p := by omega
        rw [hx] at ha; rw [hy] at hb
        injection ha with ha; injection hb with hb
        subst ha hb; exact hf)
    (fun l p x y z h hx hy hf j a b hj ha hb => by
      have hlt : p + 1 < l.length := (List.getElem?_eq_some_iff.1 hy).1
      have e1 : (l.take p ++ z ++ l.drop (p + 2))[j]? = l[j]? := by
        rw [List.append_assoc, List.getElem?_append_left (by simp; omega), List.getElem?_take_of_lt (by omega)]
      have e2 : (l.take p ++ z ++ l.drop (p + 2))[j + 1]? = l[j + 1]? := by
        rw [List.append_assoc, List.getElem?_append_left (by simp; omega), List.getElem?_take_of_lt (by omega)]
      exact h j a b (by omega) (e1 ▸ ha) (e2 ▸ hb)) (2 * l.length) l 0 (by omega) (fun j x y hj => by omega)
  rw [h3]
  intro j x y hj hx hy
  have : j + 1 < l'.length := (List.getElem?_eq_some_iff.1 hy).1
  exact h1 j x y (by omega) hx hy
theorem look_again (set : Int) (l : List Ins) : lookC set (lookC set l 0) 0 = lookC set l 0 := look_still _ 0 (Nat.le_refl _) (still_of_look set l)

/-- Without syncs there are none behind. -/
theorem look_no9 {set : Int} {l : List Ins} (h : ∀ i ∈ l, i.op ≠ 9) : ∀ i ∈ lookC set l 0, i.op ≠ 9 := by
  obtain ⟨l', p', h1, h2, h3⟩ := look_inv (set := set) (fun l _ => ∀ i ∈ l, i.op ≠ 9) (fun l p x y h _ _ _ => h)
    (fun l p x y z h hx hy hf i hi => by
      simp only [List.mem_append] at hi
      rcases hi with (hi | hi) | hi
      · exact h i (List.mem_of_mem_take hi)
      · exact (fuse_no9 hf).2.2 i hi
      · exact h i (List.mem_of_mem_drop hi)) (2 * l.length) l 0 (by omega) h
  rw [h3]; exact h1

theorem fuse_sync (x : Ins) (set : Int) : fuse x syncIns set = none := by
  cases h : fuse x syncIns set with
  | none => rfl
  | some z => exact absurd rfl (fuse_no9 h).2.1
theorem look_sync (set : Int) : ∀ (k : Nat) (l : List Ins) (p : Nat), 2 * l.length + 2 - p ≤ k → p ≤ l.length → lookC set (l ++ [syncIns]) p = lookC set l p ++ [syncIns] := by
  intro k
  induction k with
  | zero =>
    intro l p hk hp
    omega
  | succ k ih =>
    intro l p hk hp
    by_cases h1 : p + 1 < l.length
    · have hx : l[p]? = some (l[p]'(by omega)) := List.getElem?_eq_getElem _
      have hy : l[p + 1]? = some (l[p + 1]'h1) := List.getElem?_eq_getElem _
      have hx' : (l ++ [syncIns])[p]? = some (l[p]'(by omega)) := by rw [List.getElem?_append_left (by omega)]; exact hx
      have hy' : (l ++ [syncIns])[p + 1]? = some (l[p + 1]'h1) := by rw [List.getElem?_append_left (by omega)]; exact hy
      cases hf : fuse (l[p]'(by omega)) (l[p + 1]'h1) set with
      | none =>
        rw [lookC_none hx hy hf, lookC_none hx' hy' hf]
        exact ih l (p + 1) (by omega) (by omega)
      | some z =>
        have hz := fuse_le hf
        have hlen : (l.take p ++ z ++ l.drop (p + 2)).length ≤ l.length - 1 := by simp; omega
        have hlen2 : p ≤ (l.take p ++ z ++ l.drop (p + 2)).length := by simp; omega
        rw [lookC_some hx hy hf, lookC_some hx' hy' hf, List.take_append_of_le_length (by omega), List.drop_append_of_le_length (by omega), ← List.append_assoc]
        exact ih _ (p - 1) (by omega) (by omega)
    · by_cases h2 : p + 1 = l.length
      · have hx : (l ++ [syncIns])[p]? = some (l[p]'(by omega)) := by rw [List.getElem?_append_left (by omega)]; exact List.getElem?_eq_getElem _
        have hy : (l ++ [syncIns])[p + 1]? = some syncIns := by rw [h2]; simp
        rw [lookC_none hx hy (fuse_sync _ _), lookC_end (by simp; omega), lookC_end (by omega)]
      · rw [lookC_end (by simp; omega), lookC_end (by omega)]

theorem filt_all {set : Int} (hf : few set = false) (xs : List Ins) : filt set xs = xs := by
  unfold filt
  rw [List.filter_eq_self]
  intro a _
  simp [keepSync, hf]
theorem filt_no9 {set : Int} (hf : few set = true) (xs : List Ins) : ∀ i ∈ filt set xs, i.op ≠ 9 := by
  intro i hi
  have := (List.mem_filter.1 hi).2
  simpa [keepSync, hf] using this
/-- What Run makes, with its last sync set apart. -/
theorem peep_eq (set : Int) (xs : List Ins) : peepF set xs = if few set = true then (if lookC set (filt set xs) 0 = [] then [] else lookC set (filt set xs) 0 ++ [syncIns]) else lookC set xs 0 := by
  unfold peepF
  by_cases hf : few set = true
  · simp only [hf, if_true]
    by_cases h0 : filt set xs = []
    · simp [h0, withSync, lookC, look, lastSync]
    · have hw : withSync set (filt set xs) = filt set xs ++ [syncIns] := by simp [withSync, hf, h0]
      simp only [hw]
      rw [look_C (by omega), look_sync set _ _ 0 (Nat.le_refl _) (Nat.zero_le _)]
      cases hr : lookC set (filt set xs) 0 with
      | nil => simp [lastSync, hf, syncIns]
      | cons a t => cases t <;> simp [lastSync]
  · have hf' : few set = false := by simpa using hf
    simp only [hf', Bool.false_eq_true, if_false]
    have hw : withSync set (filt set xs) = xs := by simp [withSync, hf', filt_all hf']
    simp only [hw]
    rw [look_C (by omega)]
    unfold lastSync
    split <;> simp [hf']

theorem peep8 (xs : List Ins) : peepF 8 xs = if filt 8 xs = [] then [] else filt 8 xs ++ [syncIns] := by
  rw [peep_eq, few8]
  simp only [if_true, lookC, look_zero fuse8]
theorem filt_sync {set : Int} (hf : few set = true) {r : List Ins} (h : ∀ i ∈ r, i.op ≠ 9) : filt set (r ++ [syncIns]) = r := by
  unfold filt
  rw [List.filter_append, List.filter_eq_self.2 (fun a ha => by simp [keepSync, h a ha])]
  simp [keepSync, hf, syncIns]
/-- Twice is once. -/
theorem peep_twice (set : Int) (xs : List Ins) : peepF set (peepF set xs) = peepF set xs := by
  by_cases hf : few set = true
  · rw [peep_eq set xs]
    simp only [hf, if_true]
    by_cases h0 : lookC set (filt set xs) 0 = []
    · simp only [h0, if_true]
      rw [peep_eq]
      simp [filt, lookC, look]
    · simp only [h0, if_false]
      rw [peep_eq, filt_sync hf (look_no9 (filt_no9 hf xs)), look_again]
      simp only [hf, h0, if_true, if_false]
  · rw [peep_eq set xs, peep_eq]
    simp only [hf, Bool.false_eq_true, if_false]
    exact look_again set xs
theorem peep_le_look (set : Int) (l : List Ins) : (lookC set l 0).length ≤ l.length := by
  obtain ⟨l', p', h1, h2, h3⟩ := look_inv (set := set) (fun r _ => r.length ≤ l.length) (fun l p x y h _ _ _ => h)
    (fun r p x y z h hx hy hf => by
      have := (List.getElem?_eq_some_iff.1 hy).1
      have hz := fuse_le hf
      simp; omega) (2 * l.length) l 0 (by omega) (Nat.le_refl _)
  rw [h3]; exact h1
theorem peep_le (set : Int) (xs : List Ins) : (peepF set xs).length ≤ xs.length + 1 := by
  rw [peep_eq]
  have h1 := peep_le_look set (filt set xs)
  have h2 := filt_le set xs
  have h3 := peep_le_look set xs
  split
  · split <;> simp <;> omega
  · omega

def is9 (i : Ins) : Bool := i.op == 9
/-- Shorter, or the same; as many syncs. -/
theorem look_short (set : Int) (l : List Ins) : (lookC set l 0).length ≤ l.length ∧ ((lookC set l 0).length = l.length → lookC set l 0 = l) ∧ (lookC set l 0).countP is9 = l.countP is9 := by
  obtain ⟨l', p', h1, h2, h3⟩ := look_inv (set := set) (fun r _ => r.length ≤ l.length ∧ (r.length = l.length → r = l) ∧ r.countP is9 = l.countP is9) (fun l p x y h _ _ _ => h)
    (fun r p x y z h hx hy hf => by
      have hlt := (List.getElem?_eq_some_iff.1 hy).1
      have hz := fuse_le hf
      have hn := fuse_no9 hf
      obtain ⟨ha, hb, hc⟩ := h
      have hsplit : r = r.take p ++ [x, y] ++ r.drop (p + 2) := by
        have e1 : r.drop p = x :: r.drop (p + 1) := by
          obtain ⟨hl, he⟩ := List.getElem?_eq_some_iff.1 hx
          rw [List.drop_eq_getElem_cons hl, he]
        have e2 : r.drop (p + 1) = y :: r.drop (p + 2) := by
          obtain ⟨hl, he⟩ := List.getElem?_eq_some_iff.1 hy
          rw [List.drop_eq_getElem_cons hl, he]
        have e3 := List.take_append_drop p r
        rw [e1, e2] at e3
        simp only [List.append_assoc, List.cons_append, List.nil_append]
        exact e3.symm
      have hlen : (r.take p ++ z ++ r.drop (p + 2)).length ≤ r.length - 1 := by simp; omega
      refine ⟨by omega, fun e => by omega, ?_⟩
      rw [← hc]
      conv => rhs; rw [hsplit]
      have hzc : z.countP is9 = 0 := by
        rw [List.countP_eq_zero]
        intro a ha
        simp [is9, hn.2.2 a ha]
      have hxy : [x, y].countP is9 = 0 := by
        rw [List.countP_eq_zero]
        intro a ha
        simp only [List.mem_cons, List.not_mem_nil, or_false] at ha
        rcases ha with rfl | rfl
        · simp [is9, hn.1]
        · simp [is9, hn.2.1]
      rw [List.countP_append, List.countP_append, List.countP_append, List.countP_append, hzc, hxy]) (2 * l.length) l 0 (by omega) ⟨Nat.le_refl _, fun _ => rfl, rfl⟩
  rw [h3]; exact h1

theorem fusedF_congr {x y : Ins} {s t : Int} : ∀ (R : List (Int × (Ins → Ins → Option (List Ins)))), (∀ q ∈ R, bits .and .i64 s q.1 = bits .and .i64 t q.1) → fusedF x y s R = fusedF x y t R
  | [], _ => rfl
  | (k, r) :: R, h => by
    rw [fusedF, fusedF, h (k, r) (List.mem_cons_self ..), fusedF_congr R (fun q hq => h q (List.mem_cons_of_mem _ hq))]
theorem look_congr {s t : Int} (h : ∀ x y, fuse x y s = fuse x y t) : ∀ (f : Nat) (l : List Ins) (p : Nat), look s f l p = look t f l p
  | 0, _, _ => rfl
  | f + 1, l, p => by
    simp only [look]
    split
    · simp only [h]
      split
      · exact look_congr h f _ _
      · exact look_congr h f _ _
    · rfl
theorem peep_congr {s t : Int} (h1 : bits .and .i64 s 1 = bits .and .i64 t 1) (h2 : bits .and .i64 s 2 = bits .and .i64 t 2) (h4 : bits .and .i64 s 4 = bits .and .i64 t 4) (h8 : bits .and .i64 s 8 = bits .and .i64 t 8) (xs : List Ins) : peepF s xs = peepF t xs := by
  have hfu : ∀ x y, fuse x y s = fuse x y t := fun x y => fusedF_congr rulesL fun q hq => by
    simp only [rulesL, List.mem_cons, List.not_mem_nil, or_false] at hq
    rcases hq with rfl | rfl | rfl | rfl | rfl | rfl | rfl | rfl | rfl | rfl | rfl <;> assumption
  have hfe : few s = few t := by unfold few; rw [h8]
  have hfi : filt s xs = filt t xs := by unfold filt; congr 1; funext i; simp [keepSync, hfe]
  have hlc : ∀ l p, lookC s l p = lookC t l p := fun l p => look_congr hfu _ _ _
  rw [peep_eq, peep_eq, hfe, hfi, hlc, hlc]
theorem peep16 {s : Int} (h0 : 0 ≤ s) (h1 : s ≤ 15) (xs : List Ins) : peepF s xs = peepF (s + 16) xs := by
  rcases (by omega : s = 0 ∨ s = 1 ∨ s = 2 ∨ s = 3 ∨ s = 4 ∨ s = 5 ∨ s = 6 ∨ s = 7 ∨ s = 8 ∨ s = 9 ∨ s = 10 ∨ s = 11 ∨ s = 12 ∨ s = 13 ∨ s = 14 ∨ s = 15) with rfl | rfl | rfl | rfl | rfl | rfl | rfl | rfl | rfl | rfl | rfl | rfl | rfl | rfl | rfl | rfl <;>
    exact peep_congr (by decide) (by decide) (by decide) (by decide) xs
theorem peep0 (xs : List Ins) : peepF 0 xs = xs := by
  rw [peep_eq]
  simp only [show few 0 = false by decide, Bool.false_eq_true, if_false, lookC, look_zero fuse0]
end Go.Proofs.Ytanaccoelifcpaa
