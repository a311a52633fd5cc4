/- Match: plain laws: what is kept, copied, new; what is fresh. -/
import Derived.Test.YtcnpncieibmngaaMatchPL
namespace Go.Proofs.Ytcnpncieibmngaa
open Go.RowKit

/-- What holds of the first two rounds. -/
structure KeptP (ds es : List ByteArray) (st : MS) : Prop where
  len : st.1.length = es.length
  kept : ∀ (i : Nat), i < es.length → st.1[i]? = some noS ∨ ∃ g, st.1[i]? = some (keepS g) ∧ st.2 g = true ∧ ds[g]? = es[i]?
  back : ∀ (g : Nat), st.2 g = true → ∃ i, i < es.length ∧ st.1[i]? = some (keepS g)
  inj : ∀ (i j g : Nat), st.1[i]? = some (keepS g) → st.1[j]? = some (keepS g) → i = j
theorem keepS_inj {g h : Nat} (e : keepS g = keepS h) : g = h := by
  unfold keepS at e
  injection e with _ e
  omega
theorem keep_ne_no (g : Nat) : keepS g ≠ noS := by intro h; unfold keepS noS at h; injection h with h; omega
theorem KeptP.set {ds es : List ByteArray} {st : MS} (h : KeptP ds es st) {i g : Nat} (hi : i < es.length) (h0 : st.1[i]? = some noS) (ht : st.2 g = false) (hb : ds[g]? = es[i]?) : KeptP ds es (setK i (some g) st) := by
  have hl : i < st.1.length := by rw [h.len]; exact hi
  refine ⟨by rw [setK_len, h.len], fun j hj => ?_, fun g' hg' => ?_, fun j k g' hj hk => ?_⟩
  · simp only [setK]
    by_cases e : j = i
    · subst e
      right
      exact ⟨g, by rw [List.getElem?_set_self hl], by simp, hb⟩
    · rw [List.getElem?_set_ne (fun h => e h.symm)]
      rcases h.kept j hj with h1 | ⟨g', h1, h2, h3⟩
      · exact .inl h1
      · exact .inr ⟨g', h1, by simp [h2], h3⟩
  · simp only [setK, Bool.or_eq_true, beq_iff_eq] at hg' ⊢
    by_cases e : g' = g
    · subst e
      exact ⟨i, hi, by rw [List.getElem?_set_self hl]⟩
    · obtain ⟨j, hj, hjg⟩ := h.back g' (hg'.resolve_left e)
      refine ⟨j, hj, ?_⟩
      rw [List.getElem?_set_ne]
      · exact hjg
      · rintro rfl
        rw [h0] at hjg
        injection hjg with hjg
        exact keep_ne_no _ hjg.symm
  · simp only [setK] at hj hk
    have key : ∀ m, (st.1.set i (keepS g))[m]? = some (keepS g') → (m = i ∧ g' = g) ∨ (m ≠ i ∧ st.1[m]? = some (keepS g') ∧ g' ≠ g) := fun m hm => by
      by_cases e : m = i
      · subst e
        rw [List.getElem?_set_self hl] at hm
        injection hm with hm
        exact .inl ⟨rfl, (keepS_inj hm).symm⟩
      · rw [List.getElem?_set_ne (fun h => e h.symm)] at hm
        refine .inr ⟨e, hm, ?_⟩
        rintro rfl
        have hml : m < es.length := by rw [← h.len]; exact (List.getElem?_eq_some_iff.1 hm).1
        rcases h.kept m hml with h1 | ⟨g2, h1, h2, _⟩
        · rw [hm] at h1; injection h1 with h1; exact keep_ne_no _ h1
        · rw [hm] at h1; injection h1 with h1
          rw [← keepS_inj h1, ht] at h2
          cases h2
    rcases key j hj with ⟨a1, a2⟩ | ⟨a1, a2, a3⟩ <;> rcases key k hk with ⟨b1, b2⟩ | ⟨b1, b2, b3⟩
    · rw [a1, b1]
    · exact absurd a2 b3
    · exact absurd b2 a3
    · exact h.inj j k g' a2 b2
theorem fits_iff {ds es : List ByteArray} {tk : Nat → Bool} {i g : Nat} : fits ds es tk i g = true ↔ ds[g]? = es[i]? ∧ tk g = false := by
  rw [fits, Bool.and_eq_true, decide_eq_true_eq, Bool.not_eq_true']
theorem kept_no {ds es : List ByteArray} {st : MS} (h : KeptP ds es st) {i : Nat} (hi : i < es.length) : kindAt st.1 i = 0 ↔ st.1[i]? = some noS := by
  rcases h.kept i hi with h1 | ⟨g, h1, _⟩
  · rw [kindAt, h1]; simp [noS]
  · rw [kindAt, h1]; simp [keepS, noS]
theorem kept1 (ns nt : List Node) (ds es : List ByteArray) : ∀ n, n ≤ es.length → KeptP ds es (upto1 ns nt ds es n)
  | 0, _ => by
    refine ⟨by simp [upto1], fun i hi => .inl (by simp [upto1, hi]), fun g h => (by simp [upto1] at h), fun i j g h _ => ?_⟩
    simp only [upto1] at h
    rw [List.getElem?_replicate] at h
    split at h
    · injection h with h; exact absurd h.symm (keep_ne_no g)
    · cases h
  | n + 1, hn => by
    have ih := kept1 ns nt ds es n (by omega)
    rw [upto1, step1]
    cases hq : namedF ns ds es (upto1 ns nt ds es n).2 n (namesP nt n) with
    | none => exact ih
    | some g =>
      obtain ⟨p, _, _, hf⟩ := named_in hq
      obtain ⟨h1, h2⟩ := fits_iff.1 hf
      exact ih.set (by omega) ((kept_no ih (by omega)).1 (upto1_fresh ns nt ds es n (by omega) n (Nat.le_refl _))) h2 h1
theorem kept2 (ns nt : List Node) (ds es : List ByteArray) : ∀ n, n ≤ es.length → KeptP ds es (upto2 ns nt ds es n)
  | 0, _ => kept1 ns nt ds es _ (Nat.le_refl _)
  | n + 1, hn => by
    have ih := kept2 ns nt ds es n (by omega)
    rw [upto2, step2]
    split
    · rename_i h0
      cases hq : alikeF ds es (upto2 ns nt ds es n).2 n with
      | none => exact ih
      | some g =>
        obtain ⟨h1, h2⟩ := fits_iff.1 (List.find?_some hq)
        exact ih.set (by omega) ((kept_no ih (by omega)).1 h0) h2 h1
    · exact ih
theorem taken_mono (ns nt : List Node) (ds es : List ByteArray) (g m : Nat) : ∀ n, m ≤ n → (upto2 ns nt ds es m).2 g = true → (upto2 ns nt ds es n).2 g = true
  | 0, h, ht => by obtain rfl : m = 0 := by omega
                   exact ht
  | n + 1, h, ht => by
    by_cases e : m = n + 1
    · subst e; exact ht
    · have ih := taken_mono ns nt ds es g m n (by omega) ht
      rw [upto2, step2]
      split
      · unfold setK
        split
        · simp [ih]
        · exact ih
      · exact ih
theorem left2 (ns nt : List Node) (ds es : List ByteArray) {i : Nat} (hi : i < es.length) : ∀ n, i < n → n ≤ es.length → (upto2 ns nt ds es n).1[i]? = some noS → ∀ g, ds[g]? = es[i]? → (upto2 ns nt ds es n).2 g = true
  | 0, h, _, _ => by omega
  | n + 1, h, hn, h0 => by
    have ih := kept2 ns nt ds es n (by omega)
    intro g hg
    have hgl : g < ds.length := by
      rw [List.getElem?_eq_getElem hi] at hg
      exact (List.getElem?_eq_some_iff.1 hg).1
    by_cases e : i = n
    · subst e
      have hk : kindAt (upto2 ns nt ds es i).1 i = 0 := by
        rcases ih.kept i hi with h1 | ⟨g', h1, _⟩
        · exact (kept_no ih hi).2 h1
        · exfalso
          rw [upto2, step2, if_neg (by rw [kindAt, h1]; simp [keepS]), h1] at h0
          injection h0 with h0
          exact keep_ne_no _ h0
      rw [upto2, step2, if_pos hk] at h0 ⊢
      cases hq : alikeF ds es (upto2 ns nt ds es i).2 i with
      | none =>
        have := List.find?_eq_none.1 hq g (List.mem_range.2 hgl)
        rw [fits_iff] at this
        simp only [setK]
        cases ht : (upto2 ns nt ds es i).2 g with
        | true => rfl
        | false => exact absurd ⟨hg, ht⟩ this
      | some g' =>
        rw [hq] at h0
        simp only [setK] at h0
        rw [List.getElem?_set_self (by rw [ih.len]; exact hi)] at h0
        injection h0 with h0
        exact absurd h0 (keep_ne_no _)
    · have h1 : (upto2 ns nt ds es n).1[i]? = some noS := by
        rcases ih.kept i hi with h1 | ⟨g', h1, _⟩
        · exact h1
        · exfalso
          rw [upto2, step2] at h0
          split at h0
          · unfold setK at h0
            split at h0
            · rw [List.getElem?_set_ne (fun h => e h.symm), h1] at h0; injection h0 with h0; exact keep_ne_no _ h0
            · rw [h1] at h0; injection h0 with h0; exact keep_ne_no _ h0
          · rw [h1] at h0; injection h0 with h0; exact keep_ne_no _ h0
      exact taken_mono ns nt ds es g n (n + 1) (by omega) (left2 ns nt ds es hi n (by omega) (by omega) h1 g hg)
/-- Is a file's content one that s has not, and the first of its kind? -/
def FreshAt (ds es : List ByteArray) (i : Nat) : Prop := ∃ b, es[i]? = some b ∧ b ∉ ds ∧ ∀ j, j < i → es[j]? ≠ some b
/-- What holds of the third round. -/
structure DoneP (ds es sd : List ByteArray) (n : Nat) (o : List Src) : Prop where
  len : o.length = es.length
  done : ∀ (i : Nat), i < n → i < es.length → (∃ g, o[i]? = some (keepS g) ∧ ds[g]? = es[i]?) ∨ (∃ k, o[i]? = some (copyS k) ∧ es[k]? = es[i]? ∧ k ≠ i ∧ (kindAt o k = 1 ∨ (kindAt o k = 3 ∧ k < i))) ∨ (∃ k b, o[i]? = some (newS k) ∧ es[i]? = some b ∧ stockAt sd b = some k ∧ FreshAt ds es i)
  rest : ∀ (i : Nat), n ≤ i → i < es.length → o[i]? = some noS ∨ ∃ g, o[i]? = some (keepS g) ∧ ds[g]? = es[i]?
  inj : ∀ (i j g : Nat), o[i]? = some (keepS g) → o[j]? = some (keepS g) → i = j
  all : ∀ (i : Nat), i < es.length → o[i]? = some noS → ∀ (g : Nat), ds[g]? = es[i]? → ∃ j, j < es.length ∧ o[j]? = some (keepS g)
theorem kind_some {o : List Src} {i : Nat} {x : Src} (h : o[i]? = some x) : kindAt o i = x.kind := by rw [kindAt, h]; rfl
theorem kind_keep {o : List Src} {i : Nat} (h : kindAt o i = 1) {ds es sd : List ByteArray} {n : Nat} (hD : DoneP ds es sd n o) : ∃ g, o[i]? = some (keepS g) ∧ ds[g]? = es[i]? ∧ i < es.length := by
  have hi : i < es.length := by
    rcases Nat.lt_or_ge i es.length with h1 | h1
    · exact h1
    · rw [kindAt, List.getElem?_eq_none (by rw [hD.len]; exact h1)] at h; cases h
  rcases Nat.lt_or_ge i n with h1 | h1
  · rcases hD.done i h1 hi with ⟨g, e, hb⟩ | ⟨k, e, _⟩ | ⟨k, b, e, _⟩
    · exact ⟨g, e, hb, hi⟩
    · rw [kind_some e] at h; cases h
    · rw [kind_some e] at h; cases h
  · rcases hD.rest i h1 hi with e | ⟨g, e, hb⟩
    · rw [kind_some e] at h; cases h
    · exact ⟨g, e, hb, hi⟩
theorem mem_of_bytes {ds es : List ByteArray} {g i : Nat} {b : ByteArray} (h : ds[g]? = es[i]?) (hb : es[i]? = some b) : b ∈ ds := List.mem_of_getElem? (h.trans hb)
theorem done3 (ns nt : List Node) (ds es sd : List ByteArray) : ∀ n o, n ≤ es.length → upto3 ns nt ds es sd n = some o → DoneP ds es sd n o
  | 0, o, _, h => by
    rw [upto3] at h
    injection h with h
    subst h
    have hK := kept2 ns nt ds es es.length (Nat.le_refl _)
    refine ⟨hK.len, fun i h => by omega, fun i _ hi => ?_, hK.inj, fun i hi h0 g hg => ?_⟩
    · rcases hK.kept i hi with h1 | ⟨g, h1, _, h2⟩
      · exact .inl h1
      · exact .inr ⟨g, h1, h2⟩
    · exact hK.back g (left2 ns nt ds es hi es.length hi (Nat.le_refl _) h0 g hg)
  | n + 1, o, hn, h => by
    rw [upto3] at h
    cases hq : upto3 ns nt ds es sd n with
    | none => rw [hq] at h; cases h
    | some o' =>
      have ih := done3 ns nt ds es sd n o' (by omega) hq
      obtain ⟨b, hb⟩ : ∃ b, es[n]? = some b := ⟨_, List.getElem?_eq_getElem (show n < es.length by omega)⟩
      rw [hq, hb] at h
      simp only at h
      have hnl : n < o'.length := by rw [ih.len]; omega
      unfold step3 at h
      by_cases h0 : kindAt o' n ≠ 0
      · rw [if_pos h0] at h
        injection h with h
        subst h
        refine ⟨ih.len, fun i hi hil => ?_, fun i hi hil => ih.rest i (by omega) hil, ih.inj, ih.all⟩
        by_cases e : i = n
        · subst e
          rcases ih.rest i (Nat.le_refl _) hil with e | ⟨g, e, hg⟩
          · exact absurd (by rw [kind_some e]; rfl) h0
          · exact .inl ⟨g, e, hg⟩
        · exact ih.done i (by omega) hil
      · rw [if_neg h0] at h
        have hno : o'[n]? = some noS := by
          rcases ih.rest n (Nat.le_refl _) (by omega) with e | ⟨g, e, hg⟩
          · exact e
          · exact absurd (by rw [kind_some e]; simp [keepS]) h0
        -- what is turned at n keeps the rest
        have key : ∀ x : Src, x.kind ≠ 1 → x.kind ≠ 0 → ((∃ k, x = copyS k ∧ es[k]? = es[n]? ∧ k ≠ n ∧ (kindAt o' k = 1 ∨ (kindAt o' k = 3 ∧ k < n))) ∨ (∃ k b, x = newS k ∧ es[n]? = some b ∧ stockAt sd b = some k ∧ FreshAt ds es n)) → DoneP ds es sd (n + 1) (o'.set n x) := fun x hx1 hx0 hx => by
          have hkind : ∀ k, k ≠ n → kindAt (o'.set n x) k = kindAt o' k := fun k hk => by rw [kindAt_set _ _ _ _ hnl, if_neg hk]
          have hget : ∀ i, i ≠ n → (o'.set n x)[i]? = o'[i]? := fun i hi => List.getElem?_set_ne (fun h => hi h.symm)
          have hself : (o'.set n x)[n]? = some x := List.getElem?_set_self hnl
          have hkeep : ∀ i g, (o'.set n x)[i]? = some (keepS g) → i ≠ n ∧ o'[i]? = some (keepS g) := fun i g hi => by
            by_cases e : i = n
            · subst e
              rw [hself] at hi
              injection hi with hi
              exact absurd (by rw [hi]; rfl) hx1
            · exact ⟨e, by rw [← hget i e]; exact hi⟩
          refine ⟨by rw [List.length_set, ih.len], fun i hi hil => ?_, fun i hi hil => ?_, fun i j g hi hj => ih.inj i j g (hkeep i g hi).2 (hkeep j g hj).2, fun i hil hi g hg => ?_⟩
          · by_cases e : i = n
            · subst e
              rw [hself]
              rcases hx with ⟨k, rfl, h1, h2, h3⟩ | ⟨k, b, rfl, h1, h2, h3⟩
              · exact .inr (.inl ⟨k, rfl, h1, h2, by rw [hkind k h2]; exact h3⟩)
              · exact .inr (.inr ⟨k, b, rfl, h1, h2, h3⟩)
            · rw [hget i e]
              rcases ih.done i (by omega) hil with ⟨g, e1, h1⟩ | ⟨k, e1, h1, h2, h3⟩ | ⟨k, b, e1, h1, h2, h3⟩
              · exact .inl ⟨g, e1, h1⟩
              · refine .inr (.inl ⟨k, e1, h1, h2, ?_⟩)
                have hk : k ≠ n := by
                  rintro rfl
                  rcases h3 with h3 | ⟨h3, h4⟩
                  · rw [kind_some hno] at h3; cases h3
                  · omega
                rw [hkind k hk]; exact h3
              · exact .inr (.inr ⟨k, b, e1, h1, h2, h3⟩)
          · rw [hget i (by omega)]; exact ih.rest i (by omega) hil
          · by_cases e : i = n
            · subst e
              rw [hself] at hi
              injection hi with hi
              exact absurd (by rw [hi]; rfl) hx0
            · rw [hget i e] at hi
              obtain ⟨j, hj, hjg⟩ := ih.all i hil hi g hg
              refine ⟨j, hj, ?_⟩
              rw [hget j ?_]
              · exact hjg
              · rintro rfl
                rw [hno] at hjg; injection hjg with hjg; exact keep_ne_no _ hjg.symm
        cases hs : srcOf es o' b with
        | some k =>
          rw [hs] at h
          injection h with h
          subst h
          refine key _ (by simp [copyS]) (by simp [copyS]) (.inl ⟨k, rfl, ?_⟩)
          unfold srcOf at hs
          cases h1 : ofKind es 1 o' b with
          | some k1 =>
            rw [h1] at hs
            injection hs with hs
            subst hs
            have := (find_range_some h1).2.1
            rw [Bool.and_eq_true, decide_eq_true_eq, decide_eq_true_eq] at this
            refine ⟨by rw [this.1, hb], ?_, .inl this.2⟩
            rintro rfl
            rw [kind_some hno] at this; cases this.2
          | none =>
            rw [h1] at hs
            have h3 := (find_range_some hs).2.1
            rw [Bool.and_eq_true, decide_eq_true_eq, decide_eq_true_eq] at h3
            have hlt : k < n := by
              rcases Nat.lt_or_ge k n with h4 | h4
              · exact h4
              · rcases upto3_kind ns nt ds es sd n o' (by omega) hq k h4 with e | e <;> rw [e] at h3 <;> cases h3.2
            exact ⟨by rw [h3.1, hb], by omega, .inr ⟨h3.2, hlt⟩⟩
        | none =>
          rw [hs] at h
          simp only at h
          obtain ⟨n1, n3⟩ := src_none hs
          cases hk : stockAt sd b with
          | none => rw [hk] at h; cases h
          | some k =>
            rw [hk] at h
            injection h with h
            subst h
            refine key _ (by simp [newS]) (by simp [newS]) (.inr ⟨k, b, rfl, hb, hk, b, hb, ?_, ?_⟩)
            · intro hm
              obtain ⟨g, hg⟩ := List.getElem?_of_mem hm
              obtain ⟨j, hj, hjg⟩ := ih.all n (by omega) hno g (by rw [hg, hb])
              have hk1 : kindAt o' j = 1 := by rw [kind_some hjg]; rfl
              obtain ⟨g', e1, e2, _⟩ := kind_keep hk1 ih
              rw [hjg] at e1
              injection e1 with e1
              rw [← keepS_inj e1, hg] at e2
              exact ofKind_none.1 n1 j e2.symm hk1
            · intro j hj hjb
              rcases ih.done j hj (by omega) with ⟨g, e1, _⟩ | ⟨k', e1, h1, h2, h3⟩ | ⟨k', b', e1, _⟩
              · exact ofKind_none.1 n1 j hjb (by rw [kind_some e1]; rfl)
              · rw [hjb] at h1
                rcases h3 with h3 | ⟨h3, _⟩
                · exact ofKind_none.1 n1 k' h1 h3
                · exact ofKind_none.1 n3 k' h1 h3
              · exact ofKind_none.1 n3 j hjb (by rw [kind_some e1]; rfl)
/-- Where the third round fails, a content is fresh that the stock has not. -/
theorem fail3 (ns nt : List Node) (ds es sd : List ByteArray) : ∀ n, n ≤ es.length → upto3 ns nt ds es sd n = none → ∃ i b, i < n ∧ es[i]? = some b ∧ FreshAt ds es i ∧ stockAt sd b = none
  | 0, _, h => by rw [upto3] at h; cases h
  | n + 1, hn, h => by
    rw [upto3] at h
    cases hq : upto3 ns nt ds es sd n with
    | none =>
      obtain ⟨i, b, h1, h2⟩ := fail3 ns nt ds es sd n (by omega) hq
      exact ⟨i, b, by omega, h2⟩
    | some o' =>
      have ih := done3 ns nt ds es sd n o' (by omega) hq
      obtain ⟨b, hb⟩ : ∃ b, es[n]? = some b := ⟨_, List.getElem?_eq_getElem (show n < es.length by omega)⟩
      rw [hq, hb] at h
      simp only at h
      unfold step3 at h
      by_cases h0 : kindAt o' n ≠ 0
      · rw [if_pos h0] at h; cases h
      · rw [if_neg h0] at h
        have hno : o'[n]? = some noS := by
          rcases ih.rest n (Nat.le_refl _) (by omega) with e | ⟨g, e, hg⟩
          · exact e
          · exact absurd (by rw [kind_some e]; simp [keepS]) h0
        cases hs : srcOf es o' b with
        | some k => rw [hs] at h; cases h
        | none =>
          rw [hs] at h
          simp only at h
          obtain ⟨n1, n3⟩ := src_none hs
          cases hk : stockAt sd b with
          | some k => rw [hk] at h; cases h
          | none =>
            refine ⟨n, b, by omega, hb, ⟨b, hb, ?_, ?_⟩, hk⟩
            · intro hm
              obtain ⟨g, hg⟩ := List.getElem?_of_mem hm
              obtain ⟨j, hj, hjg⟩ := ih.all n (by omega) hno g (by rw [hg, hb])
              have hk1 : kindAt o' j = 1 := by rw [kind_some hjg]; rfl
              obtain ⟨g', e1, e2, _⟩ := kind_keep hk1 ih
              rw [hjg] at e1
              injection e1 with e1
              rw [← keepS_inj e1, hg] at e2
              exact ofKind_none.1 n1 j e2.symm hk1
            · intro j hj hjb
              rcases ih.done j hj (by omega) with ⟨g, e1, _⟩ | ⟨k', e1, h1, h2, h3⟩ | ⟨k', b', e1, _⟩
              · exact ofKind_none.1 n1 j hjb (by rw [kind_some e1]; rfl)
              · rw [hjb] at h1
                rcases h3 with h3 | ⟨h3, _⟩
                · exact ofKind_none.1 n1 k' h1 h3
                · exact ofKind_none.1 n3 k' h1 h3
              · exact ofKind_none.1 n3 j hjb (by rw [kind_some e1]; rfl)
/-- New is just what is fresh. -/
theorem new_fresh {ds es sd : List ByteArray} {o : List Src} (hD : DoneP ds es sd es.length o) {i : Nat} (hi : i < es.length) : kindAt o i = 3 ↔ FreshAt ds es i := by
  constructor
  · intro h
    rcases hD.done i hi hi with ⟨g, e, _⟩ | ⟨k, e, _⟩ | ⟨k, b, e, _, _, hF⟩
    · rw [kind_some e] at h; cases h
    · rw [kind_some e] at h; cases h
    · exact hF
  · rintro ⟨b, hb, h1, h2⟩
    rcases hD.done i hi hi with ⟨g, e, hg⟩ | ⟨k, e, hk, hne, hkk⟩ | ⟨k, b', e, _⟩
    · exact absurd (mem_of_bytes hg hb) h1
    · exfalso
      rcases hkk with hkk | ⟨hkk, hlt⟩
      · obtain ⟨g, e1, e2, _⟩ := kind_keep hkk hD
        exact h1 (mem_of_bytes (e2.trans hk) hb)
      · exact h2 k hlt (hk.trans hb)
    · rw [kind_some e]; rfl
/-! What Fresh tells. -/
instance decMemBA (b : ByteArray) (l : List ByteArray) : Decidable (b ∈ l) := decidable_of_iff (l.any (fun x => decide (x = b)) = true) (by simp)
def freshRun : List ByteArray → List ByteArray → List ByteArray
  | _, [] => []
  | seen, b :: r => if b ∈ seen then freshRun seen r else b :: freshRun (seen ++ [b]) r
def freshL (ds es : List ByteArray) : List ByteArray := freshRun ds es
theorem freshRun_same : ∀ {l m r : List ByteArray}, (∀ b, b ∈ l ↔ b ∈ m) → freshRun l r = freshRun m r
  | _, _, [], _ => rfl
  | l, m, b :: r, h => by
    rw [freshRun, freshRun]
    by_cases hb : b ∈ l
    · rw [if_pos hb, if_pos ((h b).1 hb)]; exact freshRun_same h
    · rw [if_neg hb, if_neg (fun h2 => hb ((h b).2 h2))]
      rw [freshRun_same (m := m ++ [b]) fun c => by simp [h c]]
theorem freshRun_snoc : ∀ (seen r : List ByteArray) (b : ByteArray), freshRun seen (r ++ [b]) = if b ∈ seen ∨ b ∈ r then freshRun seen r else freshRun seen r ++ [b]
  | seen, [], b => by simp [freshRun]
  | seen, c :: r, b => by
    rw [List.cons_append, freshRun, freshRun]
    by_cases hc : c ∈ seen
    · rw [if_pos hc, if_pos hc, freshRun_snoc seen r b]
      by_cases e : b ∈ seen ∨ b ∈ r
      · rw [if_pos e, if_pos (by rcases e with e | e; exact .inl e; exact .inr (List.mem_cons_of_mem _ e))]
      · rw [if_neg e, if_neg (by
          simp only [List.mem_cons]
          rintro (h | rfl | h)
          · exact e (.inl h)
          · exact e (.inl hc)
          · exact e (.inr h))]
    · rw [if_neg hc, if_neg hc, freshRun_snoc (seen ++ [c]) r b]
      by_cases e : b ∈ seen ++ [c] ∨ b ∈ r
      · rw [if_pos e, if_pos (by
          simp only [List.mem_append, List.mem_cons, List.not_mem_nil, or_false] at e ⊢
          rcases e with (e | e) | e
          · exact .inl e
          · exact .inr (.inl e)
          · exact .inr (.inr e))]
      · rw [if_neg e, if_neg (by
          simp only [List.mem_append, List.mem_cons, List.not_mem_nil, or_false] at e ⊢
          rintro (h | h | h)
          · exact e (.inl (.inl h))
          · exact e (.inl (.inr h))
          · exact e (.inr h)), List.cons_append]
theorem freshRun_mem (seen : List ByteArray) : ∀ (r : List ByteArray) (b : ByteArray), b ∈ freshRun seen r ↔ b ∈ r ∧ b ∉ seen := by
  intro r
  induction r generalizing seen with
  | nil => simp [freshRun]
  | cons c r ih =>
    intro b
    rw [freshRun]
    split
    · rename_i hc
      rw [ih]
      simp only [List.mem_cons]
      constructor
      · rintro ⟨h1, h2⟩; exact ⟨.inr h1, h2⟩
      · rintro ⟨rfl | h1, h2⟩
        · exact absurd hc h2
        · exact ⟨h1, h2⟩
    · rename_i hc
      rw [List.mem_cons, ih]
      simp only [List.mem_cons, List.mem_append, List.not_mem_nil, or_false]
      constructor
      · rintro (rfl | ⟨h1, h2⟩)
        · exact ⟨.inl rfl, hc⟩
        · exact ⟨.inr h1, fun h => h2 (.inl h)⟩
      · rintro ⟨rfl | h1, h2⟩
        · exact .inl rfl
        · by_cases e : b = c
          · exact .inl e
          · exact .inr ⟨h1, fun h => h.elim h2 e⟩
theorem fresh_first {es : List ByteArray} {ds : List ByteArray} {b : ByteArray} (h : b ∈ freshL ds es) : ∃ i, FreshAt ds es i ∧ es[i]? = some b := by
  obtain ⟨h1, h2⟩ := (freshRun_mem ds es b).1 h
  obtain ⟨j, hj⟩ := List.getElem?_of_mem h1
  have hlt := (List.getElem?_eq_some_iff.1 hj).1
  have hex : ∃ i, (List.range es.length).find? (fun i => decide (es[i]? = some b)) = some i := by
    cases hq : (List.range es.length).find? (fun i => decide (es[i]? = some b)) with
    | some i => exact ⟨i, rfl⟩
    | none => have := List.find?_eq_none.1 hq j (List.mem_range.2 hlt); simp [hj] at this
  obtain ⟨i, hi⟩ := hex
  obtain ⟨k1, k2, k3⟩ := find_range_some hi
  have k2' := of_decide_eq_true k2
  exact ⟨i, ⟨b, k2', h2, fun j hj => of_decide_eq_false (k3 j hj)⟩, k2'⟩
/-- So many are new as are fresh. -/
theorem fresh_count (ds : List ByteArray) (p : Nat → Bool) : ∀ (n : Nat) (es : List ByteArray), n ≤ es.length → (∀ i, i < n → (p i = true ↔ FreshAt ds es i)) → ((List.range n).filter p).length = (freshL ds (es.take n)).length
  | 0, es, _, _ => by simp [freshL, freshRun]
  | n + 1, es, hn, hp => by
    have ih := fresh_count ds p n es (by omega) fun i hi => hp i (by omega)
    obtain ⟨b, hb⟩ : ∃ b, es[n]? = some b := ⟨_, List.getElem?_eq_getElem (show n < es.length by omega)⟩
    rw [List.range_succ, List.filter_append, List.length_append, ih]
    have htk : es.take (n + 1) = es.take n ++ [b] := by rw [List.take_add_one, hb]; rfl
    rw [htk]
    unfold freshL
    rw [freshRun_snoc]
    have hF : FreshAt ds es n ↔ ¬ (b ∈ ds ∨ b ∈ es.take n) := by
      constructor
      · rintro ⟨c, hc, h1, h2⟩ h
        rw [hb] at hc
        injection hc with hc
        subst hc
        rcases h with h | h
        · exact h1 h
        · obtain ⟨j, hj⟩ := List.getElem?_of_mem h
          have hjn : j < n := by have := (List.getElem?_eq_some_iff.1 hj).1; rw [List.length_take] at this; omega
          rw [List.getElem?_take_of_lt hjn] at hj
          exact h2 j hjn hj
      · intro h
        refine ⟨b, hb, fun h1 => h (.inl h1), fun j hj hjb => h (.inr ?_)⟩
        rw [← List.getElem?_take_of_lt hj] at hjb
        exact List.mem_of_getElem? hjb
    by_cases e : b ∈ ds ∨ b ∈ es.take n
    · have : p n = false := by
        cases hq : p n with
        | false => rfl
        | true => exact absurd ((hF.1 ((hp n (by omega)).1 hq))) (by simp [e])
      rw [if_pos e]
      simp [this]
    · have : p n = true := (hp n (by omega)).2 (hF.2 e)
      rw [if_neg e]
      simp [this]
end Go.Proofs.Ytcnpncieibmngaa
