/- Match: plain laws: a tree with itself; contents behind the stock's own; files whose names and bytes are the same. -/
import Derived.Test.YtcnpncieibmngaaMatchP
namespace Go.Proofs.Ytcnpncieibmngaa
open Go.RowKit

theorem mem_names {l : List Node} {f : Nat} {p : ByteArray} : p ∈ namesP l f ↔ ∃ x ∈ l, x.file = (f : Int) ∧ x.path = p := by
  unfold namesP picks
  simp only [List.mem_map, List.mem_filter, namesF, Bool.and_eq_true, beq_iff_eq, decide_eq_true_eq]
  exact ⟨fun ⟨x, ⟨h1, h2, _⟩, h3⟩ => ⟨x, h1, h2, h3⟩, fun ⟨x, h1, h2, h3⟩ => ⟨x, ⟨h1, h2, by omega⟩, h3⟩⟩
theorem fileOf_of {l : List Node} (hR : Rises l) {x : Node} (hx : x ∈ l) : fileOfP l x.path = if x.file < 0 then none else some x.file.toNat := by
  unfold fileOfP
  cases h : l.find? (fun y => decide (y.path = x.path)) with
  | none =>
    have := List.find?_eq_none.1 h x hx
    simp at this
  | some y =>
    have h1 := List.mem_of_find?_eq_some h
    have h2 := List.find?_some h
    simp only [decide_eq_true_eq] at h2
    have : y = x := rises_inj hR h1 hx (by unfold pathL; rw [h2])
    rw [this]
theorem fileOf_name {l : List Node} (hR : Rises l) {f : Nat} {p : ByteArray} : p ∈ namesP l f ↔ fileOfP l p = some f := by
  rw [mem_names]
  constructor
  · rintro ⟨x, hx, hf, rfl⟩
    rw [fileOf_of hR hx, if_neg (by omega), hf]
    simp
  · intro h
    unfold fileOfP at h
    cases hq : l.find? (fun y => decide (y.path = p)) with
    | none => rw [hq] at h; cases h
    | some y =>
      rw [hq] at h
      have h1 := List.mem_of_find?_eq_some hq
      have h2 := List.find?_some hq
      simp only [decide_eq_true_eq] at h2
      simp only at h
      split at h
      · cases h
      · injection h with h
        exact ⟨y, h1, by omega, h2⟩
theorem names_ne {t : TV} (hG : Good t) {f : Nat} (hf : f < t.fn) : namesP t.nodes f ≠ [] := by
  obtain ⟨x, hx, e⟩ := hG.hit f (by omega) (by exact_mod_cast hf)
  intro h
  have := mem_names.2 ⟨x, hx, e, rfl⟩
  rw [h] at this
  cases this
/-! A tree with itself. -/
def selfOut (n k : Nat) : List Src := (List.range k).map keepS ++ List.replicate (n - k) noS
theorem self_set {n k : Nat} (h : k < n) : (selfOut n k).set k (keepS k) = selfOut n (k + 1) := by
  unfold selfOut
  rw [List.set_append_right _ _ (by simp), List.length_map, List.length_range, Nat.sub_self, List.range_succ, List.map_append, List.append_assoc]
  congr 1
  rw [show n - k = (n - (k + 1)) + 1 by omega, List.replicate_succ]
  rfl
theorem self_upto1 {t : TV} (hG : Good t) (ds : List ByteArray) (hl : ds.length = t.fn) : ∀ n, n ≤ t.fn → upto1 t.nodes t.nodes ds ds n = (selfOut ds.length n, fun x => decide (x < n))
  | 0, _ => by
    rw [upto1]
    have : selfOut ds.length 0 = List.replicate ds.length noS := by simp [selfOut]
    rw [this]
    refine Prod.ext rfl (funext fun x => ?_)
    simp
  | n + 1, h => by
    rw [upto1, self_upto1 hG ds hl n (by omega)]
    have hne := names_ne hG (f := n) (by omega)
    unfold step1
    cases hq : namesP t.nodes n with
    | nil => exact absurd hq hne
    | cons p r =>
      have hp : fileOfP t.nodes p = some n := (fileOf_name hG.rises).1 (by rw [hq]; simp)
      have hfit : fits ds ds (fun x => decide (x < n)) n n = true := by simp [fits]
      simp only [namedF, hp, hfit, if_true, setK]
      rw [self_set (by omega)]
      congr 1
      funext x
      rw [Bool.eq_iff_iff, Bool.or_eq_true, beq_iff_eq, decide_eq_true_eq, decide_eq_true_eq]
      omega
theorem self_kind {n i : Nat} (h : i < n) : kindAt (selfOut n n) i = 1 := by
  have : (selfOut n n)[i]? = some (keepS i) := by simp [selfOut, h]
  rw [kindAt, this]; rfl
theorem self_upto2 {t : TV} (hG : Good t) (ds : List ByteArray) (hl : ds.length = t.fn) : ∀ n, n ≤ t.fn → upto2 t.nodes t.nodes ds ds n = (selfOut ds.length ds.length, fun x => decide (x < ds.length))
  | 0, _ => self_upto1 hG ds hl _ (by omega)
  | n + 1, h => by
    rw [upto2, self_upto2 hG ds hl n (by omega), step2, if_neg]
    rw [self_kind (by omega)]
    decide
theorem self_upto3 {t : TV} (hG : Good t) (ds sd : List ByteArray) (hl : ds.length = t.fn) : ∀ n, n ≤ t.fn → upto3 t.nodes t.nodes ds ds sd n = some (selfOut ds.length ds.length)
  | 0, _ => by rw [upto3, self_upto2 hG ds hl _ (by omega)]
  | n + 1, h => by
    rw [upto3, self_upto3 hG ds sd hl n (by omega), List.getElem?_eq_getElem (show n < ds.length by omega)]
    simp only [step3]
    rw [if_pos]
    rw [self_kind (by omega)]
    decide
/-! Contents behind the stock's own. -/
theorem stockAt_app {sd more : List ByteArray} {b : ByteArray} {k : Nat} (h : stockAt sd b = some k) : stockAt (sd ++ more) b = some k := by
  obtain ⟨h1, h2, h3⟩ := find_range_some h
  unfold stockAt
  refine find_range_first (by rw [List.length_append]; omega) ?_ fun j hj => ?_
  · rw [List.getElem?_append_left h1]; exact h2
  · rw [List.getElem?_append_left (by omega)]; exact h3 j hj
theorem step3_app {es sd : List ByteArray} (more : List ByteArray) {out o : List Src} {i : Nat} {b : ByteArray} (h : step3 es sd out i b = some o) : step3 es (sd ++ more) out i b = some o := by
  unfold step3 at h ⊢
  split at h
  · rename_i h0; rw [if_pos h0]; exact h
  · rename_i h0
    rw [if_neg h0]
    cases hs : srcOf es out b with
    | some k => rw [hs] at h; exact h
    | none =>
      rw [hs] at h
      simp only at h ⊢
      cases hk : stockAt sd b with
      | none => rw [hk] at h; cases h
      | some k => rw [hk] at h; rw [stockAt_app hk]; exact h
theorem upto3_app (ns nt : List Node) (ds es sd more : List ByteArray) : ∀ n o, upto3 ns nt ds es sd n = some o → upto3 ns nt ds es (sd ++ more) n = some o
  | 0, o, h => h
  | n + 1, o, h => by
    rw [upto3] at h ⊢
    cases hq : upto3 ns nt ds es sd n with
    | none => rw [hq] at h; cases h
    | some o' =>
      rw [hq] at h
      rw [upto3_app ns nt ds es sd more n o' hq]
      cases hb : es[n]? with
      | none => rw [hb] at h; exact h
      | some b => rw [hb] at h; exact step3_app more h
theorem stockRun_iff : ∀ (sd : List ByteArray) (left : Nat), stockRun sd left = true ↔ (∀ d ∈ sd, d.size ≤ 8192) ∧ (sd.map (·.size)).sum ≤ left
  | [], left => by simp [stockRun]
  | d :: r, left => by
    rw [stockRun]
    split
    · rename_i h
      simp only [Bool.false_eq_true, List.mem_cons, forall_eq_or_imp, List.map_cons, List.sum_cons, false_iff]
      omega
    · rename_i h
      rw [stockRun_iff r, List.map_cons, List.sum_cons]
      simp only [List.mem_cons, forall_eq_or_imp]
      constructor
      · rintro ⟨h1, h2⟩; exact ⟨⟨by omega, h1⟩, by omega⟩
      · rintro ⟨⟨_, h1⟩, h2⟩; exact ⟨h1, by omega⟩
theorem stockE_iff (sd : List ByteArray) : stockE sd = 0 ↔ sd.length ≤ 65535 ∧ (∀ d ∈ sd, d.size ≤ 8192) ∧ (sd.map (·.size)).sum ≤ 65536 := by
  unfold stockE
  rw [← stockRun_iff]
  split
  · simp; omega
  · split
    · rename_i h1 h2; simp [h2]; omega
    · rename_i h1 h2; simp [h2]
/-! A file whose names and bytes are the same in both trees. -/
theorem upto1_taken (ns nt : List Node) (ds es : List ByteArray) (g : Nat) : ∀ n, (upto1 ns nt ds es n).2 g = true → ∃ j, j < n ∧ namedF ns ds es (upto1 ns nt ds es j).2 j (namesP nt j) = some g
  | 0, h => by simp [upto1] at h
  | n + 1, h => by
    rw [upto1, step1] at h
    unfold setK at h
    cases hq : namedF ns ds es (upto1 ns nt ds es n).2 n (namesP nt n) with
    | none =>
      rw [hq] at h
      obtain ⟨j, hj, e⟩ := upto1_taken ns nt ds es g n h
      exact ⟨j, by omega, e⟩
    | some g' =>
      rw [hq] at h
      simp only [Bool.or_eq_true, beq_iff_eq] at h
      rcases h with h | h
      · exact ⟨n, by omega, by rw [hq, h]⟩
      · obtain ⟨j, hj, e⟩ := upto1_taken ns nt ds es g n h
        exact ⟨j, by omega, e⟩
theorem named_in {ns : List Node} {ds es : List ByteArray} {tk : Nat → Bool} {i g : Nat} : ∀ {l : List ByteArray}, namedF ns ds es tk i l = some g → ∃ p ∈ l, fileOfP ns p = some g ∧ fits ds es tk i g = true
  | [], h => by simp [namedF] at h
  | p :: r, h => by
    rw [namedF] at h
    cases hq : fileOfP ns p with
    | none =>
      rw [hq] at h
      obtain ⟨q, hq1, hq2⟩ := named_in (l := r) h
      exact ⟨q, List.mem_cons_of_mem _ hq1, hq2⟩
    | some g' =>
      rw [hq] at h
      simp only at h
      split at h
      · rename_i hf
        injection h with h
        subst h
        exact ⟨p, by simp, hq, hf⟩
      · obtain ⟨q, hq1, hq2⟩ := named_in (l := r) h
        exact ⟨q, List.mem_cons_of_mem _ hq1, hq2⟩
theorem upto1_get (ns nt : List Node) (ds es : List ByteArray) {i : Nat} (hi : i < es.length) {g : Nat} (h : namedF ns ds es (upto1 ns nt ds es i).2 i (namesP nt i) = some g) : ∀ n, i < n → n ≤ es.length → (upto1 ns nt ds es n).1[i]? = some (keepS g)
  | 0, h, _ => by omega
  | n + 1, hn, hl => by
    rw [upto1, step1]
    by_cases e : i = n
    · subst e
      rw [h]
      simp only [setK]
      rw [List.getElem?_set_self (by rw [upto1_len]; omega)]
    · have ih := upto1_get ns nt ds es hi h n (by omega) (by omega)
      unfold setK
      split
      · rw [List.getElem?_set_ne (fun h => e h.symm)]; exact ih
      · exact ih
theorem upto2_get (ns nt : List Node) (ds es : List ByteArray) {i : Nat} {x : Src} (hx : x.kind ≠ 0) (h : (upto1 ns nt ds es es.length).1[i]? = some x) : ∀ n, n ≤ es.length → (upto2 ns nt ds es n).1[i]? = some x
  | 0, _ => h
  | n + 1, hl => by
    have ih := upto2_get ns nt ds es hx h n (by omega)
    rw [upto2, step2]
    split
    · rename_i h0
      have hne : n ≠ i := by
        rintro rfl
        rw [kindAt, ih] at h0
        exact hx h0
      unfold setK
      split
      · rw [List.getElem?_set_ne hne]; exact ih
      · exact ih
    · exact ih
theorem upto3_get (ns nt : List Node) (ds es sd : List ByteArray) {i : Nat} {x : Src} (hx : x.kind ≠ 0) (h : (upto2 ns nt ds es es.length).1[i]? = some x) : ∀ n o, n ≤ es.length → upto3 ns nt ds es sd n = some o → o[i]? = some x
  | 0, o, _, ho => by rw [upto3] at ho; injection ho with ho; rw [← ho]; exact h
  | n + 1, o, hl, ho => by
    rw [upto3] at ho
    cases hq : upto3 ns nt ds es sd n with
    | none => rw [hq] at ho; cases ho
    | some o' =>
      have ih := upto3_get ns nt ds es sd hx h n o' (by omega) hq
      rw [hq, List.getElem?_eq_getElem (show n < es.length by omega)] at ho
      simp only at ho
      unfold step3 at ho
      by_cases h0 : kindAt o' n ≠ 0
      · rw [if_pos h0] at ho; injection ho with ho; rw [← ho]; exact ih
      · rw [if_neg h0] at ho
        have hne : n ≠ i := by
          rintro rfl
          apply h0
          rw [kindAt, ih]
          exact hx
        repeat' split at ho
        all_goals first
          | cases ho; done
          | (injection ho with ho; rw [← ho, List.getElem?_set_ne hne]; exact ih)
/-- A file whose names and bytes are the same in both trees is kept as itself. -/
theorem stays_law {ns nt : List Node} (hs : Rises ns) (ht : Rises nt) {ds es sd : List ByteArray} {f g : Nat} (hf : f < es.length) (hne : namesP nt f ≠ []) (hn : namesP ns g = namesP nt f) (hb : ds[g]? = es[f]?) {o : List Src} (ho : upto3 ns nt ds es sd es.length = some o) : o[f]? = some (keepS g) := by
  refine upto3_get ns nt ds es sd (by simp [keepS]) (upto2_get ns nt ds es (by simp [keepS]) (upto1_get ns nt ds es hf ?_ _ hf (Nat.le_refl _)) _ (Nat.le_refl _)) _ _ (Nat.le_refl _) ho
  have hfree : (upto1 ns nt ds es f).2 g = false := by
    cases hq : (upto1 ns nt ds es f).2 g with
    | false => rfl
    | true =>
      obtain ⟨j, hj, e⟩ := upto1_taken ns nt ds es g f hq
      obtain ⟨p, hp, h1, _⟩ := named_in e
      have h2 := (fileOf_name hs).2 h1
      rw [hn] at h2
      have h3 := (fileOf_name ht).1 h2
      rw [(fileOf_name ht).1 hp] at h3
      injection h3 with h3
      omega
  cases hq : namesP nt f with
  | nil => exact absurd hq hne
  | cons p r =>
    have h1 : fileOfP ns p = some g := (fileOf_name hs).1 (by rw [hn, hq]; simp)
    have h2 : fits ds es (upto1 ns nt ds es f).2 f g = true := by simp [fits, hb, hfree]
    simp only [namedF, h1, h2, if_true]
end Go.Proofs.Ytcnpncieibmngaa
