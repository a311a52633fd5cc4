/- MatchWhole in plain words: what a match that was not refused says of each file. -/
import Derived.Test.YtcnpncieibmngaaRStock
import Derived.Test.YtcnpncieibmngaaMatchE
namespace Go.Proofs.Ytcnpncieibmngaa
open Go.RowKit

/-- Does a content lack? -/
def lackB (sd : List ByteArray) (b : ByteArray) : Bool := decide (findE sd b < 0)
theorem lackB_iff (sd : List ByteArray) (b : ByteArray) : lackB sd b = true ↔ stockAt sd b = none := by
  unfold lackB findE
  cases stockAt sd b with
  | none => simp
  | some k => simp
/-- What is said of a match behind right trees and a right stock. -/
theorem whole_case {s t : TV} {ds es sd : List ByteArray} (c : checksE s t = 0) (c3 : stockE sd = 0) :
    ((freshL ds es).any (lackB sd) = true ∧ matchE s t ds es sd = 32) ∨ ((freshL ds es).any (lackB sd) = false ∧ matchE s t ds es sd = 0 ∧ DoneP ds es sd es.length (matchL s t ds es sd)) := by
  have c1 : checkE s = 0 := by
    unfold checksE at c
    by_cases e : checkE s = 0
    · exact e
    · rw [if_pos e] at c; exact c
  have c2 : checkE t = 0 := by
    unfold checksE at c
    rw [if_neg (by simp [c1])] at c
    exact c
  unfold matchE matchL
  rw [if_neg (by simp [c1]), if_neg (by simp [c2]), if_neg (by simp [c3]), if_neg (by simp [c1]), if_neg (by simp [c2]), if_neg (by simp [c3])]
  cases hu : upto3 s.nodes t.nodes ds es sd es.length with
  | none =>
    left
    refine ⟨?_, rfl⟩
    obtain ⟨i, b, hi, hb, hf, hn⟩ := fail3 s.nodes t.nodes ds es sd es.length (Nat.le_refl _) hu
    rw [List.any_eq_true]
    refine ⟨b, ?_, (lackB_iff sd b).2 hn⟩
    obtain ⟨b', hb', h1, h2⟩ := hf
    rw [hb] at hb'
    injection hb' with hb'
    subst hb'
    exact (freshRun_mem ds es b).2 ⟨List.mem_of_getElem? hb, h1⟩
  | some o =>
    right
    have hD := done3 s.nodes t.nodes ds es sd es.length o (Nat.le_refl _) hu
    refine ⟨?_, rfl, hD⟩
    rw [List.any_eq_false]
    intro b hb hl
    have hn := (lackB_iff sd b).1 hl
    obtain ⟨i, hf, hi⟩ := fresh_first hb
    have hil := (List.getElem?_eq_some_iff.1 hi).1
    have hk := (new_fresh hD hil).2 hf
    rcases hD.done i hil hil with ⟨g, e, _⟩ | ⟨k, e, _⟩ | ⟨k, b', e, e2, e3, _⟩
    · rw [kind_some e] at hk; cases hk
    · rw [kind_some e] at hk; cases hk
    · rw [hi] at e2
      injection e2 with e2
      subst e2
      rw [hn] at e3
      cases e3
/-- Is file g kept by one of the first i? -/
def usedB (o : List Src) (i g : Nat) : Bool := (List.range i).any fun j => decide ((o[j]?).map (fun x => (x.kind, x.file)) = some (1, (g : Int)))
theorem usedB_0 (o : List Src) (g : Nat) : usedB o 0 g = false := rfl
theorem usedB_succ (o : List Src) (i g : Nat) : usedB o (i + 1) g = (usedB o i g || decide ((o[i]?).map (fun x => (x.kind, x.file)) = some (1, (g : Int)))) := by
  unfold usedB
  rw [List.range_succ, List.any_append]
  simp
def boolL (b : Bool) : List Value := [.bool b]
def usedL (o : List Src) (i m : Nat) : List Bool := (List.range m).map (usedB o i)
theorem usedL_get {o : List Src} {i m g : Nat} (h : g < m) : (usedL o i m)[g]? = some (usedB o i g) := by simp [usedL, h]
theorem usedL_same {o : List Src} {i m : Nat} {x : Src} (hx : o[i]? = some x) (hk : x.kind ≠ 1) : usedL o (i + 1) m = usedL o i m := by
  unfold usedL
  refine List.map_congr_left fun g _ => ?_
  rw [usedB_succ, hx]
  simp [hk]
theorem usedL_set {o : List Src} {i m g : Nat} (hx : o[i]? = some (keepS g)) : (usedL o i m).set g true = usedL o (i + 1) m := by
  apply List.ext_getElem?
  intro j
  rw [List.getElem?_set]
  by_cases e : g = j
  · subst e
    by_cases h : g < m
    · rw [if_pos rfl, if_pos (by simpa [usedL] using h), usedL_get h, usedB_succ, hx]
      simp [keepS]
    · rw [if_pos rfl, if_neg (by simpa [usedL] using h), List.getElem?_eq_none (by simp [usedL]; omega)]
  · rw [if_neg e]
    by_cases h : j < m
    · rw [usedL_get h, usedL_get h, usedB_succ, hx]
      have : ¬ (g : Int) = j := by omega
      simp [keepS, this]
    · rw [List.getElem?_eq_none (by simp [usedL]; omega), List.getElem?_eq_none (by simp [usedL]; omega)]
theorem used_no {ds es sd : List ByteArray} {o : List Src} (hD : DoneP ds es sd es.length o) {i g : Nat} (hx : o[i]? = some (keepS g)) : usedB o i g = false := by
  unfold usedB
  rw [List.any_eq_false]
  intro j hj
  rw [List.mem_range] at hj
  simp only [decide_eq_true_eq]
  intro h
  have hi : i < es.length := by rw [← hD.len]; exact (List.getElem?_eq_some_iff.1 hx).1
  have hjl : j < es.length := by omega
  have hjo : ∃ y, o[j]? = some y := ⟨_, List.getElem?_eq_getElem (by rw [hD.len]; exact hjl)⟩
  obtain ⟨y, hy⟩ := hjo
  rw [hy] at h
  simp only [Option.map_some, Option.some.injEq, Prod.mk.injEq] at h
  rcases hD.done j hjl hjl with ⟨g', e, _⟩ | ⟨k, e, _⟩ | ⟨k, b', e, _⟩
  · rw [hy] at e
    injection e with e
    have : g' = g := by have h2 := h.2; rw [e] at h2; simp only [keepS] at h2; omega
    subst this
    rw [e] at hy
    have := hD.inj j i g' hy hx
    omega
  · rw [hy] at e; injection e with e; rw [e] at h; simp [copyS] at h
  · rw [hy] at e; injection e with e; rw [e] at h; simp [newS] at h
/-- How many of the first i are new. -/
def newN (o : List Src) (i : Nat) : Nat := ((List.range i).filter fun j => decide (kindAt o j = 3)).length
theorem newN_succ (o : List Src) (i : Nat) : newN o (i + 1) = newN o i + if kindAt o i = 3 then 1 else 0 := by
  unfold newN
  rw [List.range_succ, List.filter_append, List.length_append]
  by_cases h : kindAt o i = 3 <;> simp [h]
theorem newN_le (o : List Src) (i : Nat) : newN o i ≤ i := by
  unfold newN
  have := List.length_filter_le (fun j => decide (kindAt o j = 3)) (List.range i)
  simpa using this
theorem newN_all {ds es sd : List ByteArray} {o : List Src} (hD : DoneP ds es sd es.length o) : newN o es.length = (freshL ds es).length := by
  have h := fresh_count ds (fun j => decide (kindAt o j = 3)) es.length es (Nat.le_refl _) fun i hi => by
    rw [decide_eq_true_eq]
    exact new_fresh hD hi
  rw [List.take_of_length_le (Nat.le_refl _)] at h
  exact h
end Go.Proofs.Ytcnpncieibmngaa
