/- match.Match in plain words: where each file of a target comes from. Match: plain laws: a tree with itself; contents behind the stock's own; files whose names and bytes are the same. -/
import Derived.Test.YtcnpncieibmngaaMapV
import Derived.Test.YtcnpncieibmngaaUniq

namespace Go.Proofs.Ytcnpncieibmngaa
open Go.RowKit

/-- A source, as its three cells. -/
structure Src where
  kind : Int
  file : Int
  ref : Int
def Src.list (x : Src) : List Value := [.int .i64 x.kind, .int .i64 x.file, .int .i64 x.ref]
theorem Src.len (x : Src) : x.list.length = 3 := rfl
def noS : Src := ⟨0, 0, 0⟩
def keepS (g : Nat) : Src := ⟨1, g, 0⟩
def copyS (k : Nat) : Src := ⟨2, k, 0⟩
def newS (k : Nat) : Src := ⟨3, 0, k⟩
def kindAt (out : List Src) (i : Nat) : Int := ((out[i]?).map (·.kind)).getD 0
theorem kindAt_set (out : List Src) (i j : Nat) (x : Src) (h : i < out.length) : kindAt (out.set i x) j = if j = i then x.kind else kindAt out j := by
  unfold kindAt
  by_cases e : j = i
  · subst e
    rw [if_pos rfl, List.getElem?_set_self h]; rfl
  · rw [if_neg e, List.getElem?_set_ne (fun h => e h.symm)]
/-- The file at a path. -/
def fileOfP (l : List Node) (p : ByteArray) : Option Nat := match l.find? (fun x => decide (x.path = p)) with
  | some x => if x.file < 0 then none else some x.file.toNat
  | none => none
def namesP (l : List Node) (f : Nat) : List ByteArray := picks (namesF f) l
abbrev MS := List Src × (Nat → Bool)
section
variable (ns nt : List Node) (ds es : List ByteArray)
/-- Has file g of s the bytes of file i of t, and is it not taken? -/
def fits (tk : Nat → Bool) (i g : Nat) : Bool := decide (ds[g]? = es[i]?) && !tk g
def namedF (tk : Nat → Bool) (i : Nat) : List ByteArray → Option Nat
  | [] => none
  | p :: r => match fileOfP ns p with
    | some g => if fits ds es tk i g = true then some g else namedF tk i r
    | none => namedF tk i r
def alikeF (tk : Nat → Bool) (i : Nat) : Option Nat := (List.range ds.length).find? (fits ds es tk i)
def setK (i : Nat) (o : Option Nat) (st : MS) : MS := match o with
  | some g => (st.1.set i (keepS g), fun x => x == g || st.2 x)
  | none => st
def step1 (st : MS) (i : Nat) : MS := setK i (namedF ns ds es st.2 i (namesP nt i)) st
def step2 (st : MS) (i : Nat) : MS := if kindAt st.1 i = 0 then setK i (alikeF ds es st.2 i) st else st
def upto1 : Nat → MS
  | 0 => (List.replicate es.length noS, fun _ => false)
  | n + 1 => step1 ns nt ds es (upto1 n) n
def upto2 : Nat → MS
  | 0 => upto1 ns nt ds es es.length
  | n + 1 => step2 ds es (upto2 n) n
/-- The first file with these bytes that is of this kind. -/
def ofKind (k : Int) (out : List Src) (b : ByteArray) : Option Nat := (List.range es.length).find? fun g => decide (es[g]? = some b) && decide (kindAt out g = k)
def srcOf (out : List Src) (b : ByteArray) : Option Nat := match ofKind es 1 out b with
  | some g => some g
  | none => ofKind es 3 out b
def stockAt (sd : List ByteArray) (b : ByteArray) : Option Nat := (List.range sd.length).find? fun k => decide (sd[k]? = some b)
def step3 (sd : List ByteArray) (out : List Src) (i : Nat) (b : ByteArray) : Option (List Src) :=
  if kindAt out i ≠ 0 then some out else match srcOf es out b with
    | some k => some (out.set i (copyS k))
    | none => match stockAt sd b with
      | some k => some (out.set i (newS k))
      | none => none
def upto3 (sd : List ByteArray) : Nat → Option (List Src)
  | 0 => some (upto2 ns nt ds es es.length).1
  | n + 1 => match upto3 sd n, es[n]? with
    | some o, some b => step3 es sd o n b
    | some o, none => some o
    | none, _ => none
end
/-- A stock that is too great. -/
def stockRun : List ByteArray → Nat → Bool
  | [], _ => true
  | d :: r, left => if 8192 < d.size ∨ left < d.size then false else stockRun r (left - d.size)
def stockE (sd : List ByteArray) : Int := if 65535 < sd.length then 2 else if stockRun sd 65536 = true then 0 else 2
/-! What is free: of each content the files of s that are not taken. -/
def freeL (ds : List ByteArray) (tk : Nat → Bool) (b : ByteArray) : List Nat := (List.range ds.length).filter fun g => decide (ds[g]? = some b) && !tk g
theorem mem_free {ds : List ByteArray} {tk : Nat → Bool} {b : ByteArray} {g : Nat} : g ∈ freeL ds tk b ↔ ds[g]? = some b ∧ tk g = false := by
  unfold freeL
  rw [List.mem_filter, List.mem_range, Bool.and_eq_true, decide_eq_true_eq, Bool.not_eq_true']
  exact ⟨fun h => h.2, fun h => ⟨(List.getElem?_eq_some_iff.1 h.1).1, h⟩⟩
theorem free_fits {ds es : List ByteArray} {tk : Nat → Bool} {b : ByteArray} {i g : Nat} (hb : es[i]? = some b) : fits ds es tk i g = true ↔ g ∈ freeL ds tk b := by
  rw [mem_free, fits, Bool.and_eq_true, decide_eq_true_eq, Bool.not_eq_true', hb]
theorem alike_free {ds es : List ByteArray} {tk : Nat → Bool} {b : ByteArray} {i : Nat} (hb : es[i]? = some b) : alikeF ds es tk i = (freeL ds tk b).head? := by
  unfold alikeF freeL
  rw [List.head?_filter]
  congr 1
  funext g
  rw [fits, hb]
theorem free_take (ds : List ByteArray) (tk : Nat → Bool) (b : ByteArray) (g : Nat) : freeL ds (fun x => x == g || tk x) b = (freeL ds tk b).filter fun x => decide (x ≠ g) := by
  unfold freeL
  rw [List.filter_filter]
  congr 1
  funext x
  by_cases e : x = g
  · subst e; simp
  · have h : (x == g) = false := beq_eq_false_iff_ne.2 e
    simp only [h, Bool.false_or, ne_eq, e, not_false_eq_true, decide_true, Bool.true_and]
theorem free_nodup (ds : List ByteArray) (tk : Nat → Bool) (b : ByteArray) : (freeL ds tk b).Nodup := List.nodup_range.filter _
theorem cut_filter : ∀ {l : List Nat} {k g : Nat}, l.Nodup → l[k]? = some g → l.filter (fun x => decide (x ≠ g)) = l.take k ++ l.drop (k + 1)
  | [], k, g, _, h => by simp at h
  | a :: t, 0, g, hn, h => by
    simp only [List.getElem?_cons_zero, Option.some.injEq] at h
    subst h
    have h2 := (List.nodup_cons.1 hn).1
    simp only [List.take_zero, List.nil_append, List.drop_succ_cons, List.drop_zero]
    rw [List.filter_cons_of_neg (by simp)]
    exact List.filter_eq_self.2 fun x hx => decide_eq_true (fun e => h2 (e ▸ hx))
  | a :: t, k + 1, g, hn, h => by
    rw [List.getElem?_cons_succ] at h
    have hg := List.mem_of_getElem? h
    have h2 := (List.nodup_cons.1 hn)
    have hne : a ≠ g := fun e => h2.1 (by rw [e]; exact hg)
    rw [List.filter_cons_of_pos (by simpa using hne), cut_filter h2.2 h]
    simp
theorem free_ne {ds : List ByteArray} {tk : Nat → Bool} {b c : ByteArray} {g : Nat} (hg : g ∈ freeL ds tk b) (hne : c ≠ b) : freeL ds (fun x => x == g || tk x) c = freeL ds tk c := by
  rw [free_take]
  refine List.filter_eq_self.2 fun x hx => decide_eq_true fun e => hne ?_
  have h1 := (mem_free.1 hg).1
  have h2 := (mem_free.1 hx).1
  rw [e, h1] at h2
  injection h2 with h2
  exact h2.symm
/-! Lengths and kinds. -/
theorem setK_len (i : Nat) (o : Option Nat) (st : MS) : (setK i o st).1.length = st.1.length := by unfold setK; split <;> simp
theorem upto1_len (ns nt : List Node) (ds es : List ByteArray) : ∀ n, (upto1 ns nt ds es n).1.length = es.length
  | 0 => by simp [upto1]
  | n + 1 => by rw [upto1, step1, setK_len, upto1_len]
theorem upto2_len (ns nt : List Node) (ds es : List ByteArray) : ∀ n, (upto2 ns nt ds es n).1.length = es.length
  | 0 => upto1_len _ _ _ _ _
  | n + 1 => by
    rw [upto2, step2]
    split
    · rw [setK_len, upto2_len]
    · exact upto2_len _ _ _ _ n
theorem step3_len {es sd : List ByteArray} {out o : List Src} {i : Nat} {b : ByteArray} (h : step3 es sd out i b = some o) : o.length = out.length := by
  unfold step3 at h
  repeat' split at h
  all_goals first
    | (injection h with h; subst h; simp)
    | cases h
theorem upto3_len (ns nt : List Node) (ds es sd : List ByteArray) : ∀ n o, upto3 ns nt ds es sd n = some o → o.length = es.length
  | 0, o, h => by rw [upto3] at h; injection h with h; rw [← h, upto2_len]
  | n + 1, o, h => by
    rw [upto3] at h
    cases hq : upto3 ns nt ds es sd n with
    | none => rw [hq] at h; cases h
    | some o' =>
      rw [hq] at h
      cases hb : es[n]? with
      | none => rw [hb] at h; injection h with h; rw [← h]; exact upto3_len _ _ _ _ _ n o' hq
      | some b => rw [hb] at h; rw [step3_len h]; exact upto3_len _ _ _ _ _ n o' hq
theorem kind_setK {i j : Nat} {o : Option Nat} {st : MS} (h : i < st.1.length) : kindAt (setK i o st).1 j = kindAt st.1 j ∨ kindAt (setK i o st).1 j = 1 := by
  unfold setK
  split
  · rw [kindAt_set _ _ _ _ h]
    split
    · exact .inr rfl
    · exact .inl rfl
  · exact .inl rfl
theorem upto1_kind (ns nt : List Node) (ds es : List ByteArray) (j : Nat) : ∀ n, n ≤ es.length → kindAt (upto1 ns nt ds es n).1 j = 0 ∨ kindAt (upto1 ns nt ds es n).1 j = 1
  | 0, _ => by
    left
    rw [upto1, kindAt]
    rw [List.getElem?_replicate]
    split <;> rfl
  | n + 1, h => by
    rw [upto1, step1]
    rcases kind_setK (j := j) (o := namedF ns ds es (upto1 ns nt ds es n).2 n (namesP nt n)) (st := upto1 ns nt ds es n) (i := n) (by rw [upto1_len]; omega) with e | e
    · rw [e]; exact upto1_kind ns nt ds es j n (by omega)
    · exact .inr e
theorem upto1_fresh (ns nt : List Node) (ds es : List ByteArray) : ∀ n, n ≤ es.length → ∀ j, n ≤ j → kindAt (upto1 ns nt ds es n).1 j = 0
  | 0, _, j, _ => by
    rw [upto1, kindAt, List.getElem?_replicate]
    split <;> rfl
  | n + 1, h, j, hj => by
    rw [upto1, step1]
    unfold setK
    split
    · rw [kindAt_set _ _ _ _ (by rw [upto1_len]; omega), if_neg (by omega)]
      exact upto1_fresh ns nt ds es n (by omega) j (by omega)
    · exact upto1_fresh ns nt ds es n (by omega) j (by omega)
theorem upto2_kind (ns nt : List Node) (ds es : List ByteArray) (j : Nat) : ∀ n, n ≤ es.length → kindAt (upto2 ns nt ds es n).1 j = 0 ∨ kindAt (upto2 ns nt ds es n).1 j = 1
  | 0, _ => upto1_kind ns nt ds es j _ (Nat.le_refl _)
  | n + 1, h => by
    rw [upto2, step2]
    split
    · rcases kind_setK (j := j) (o := alikeF ds es (upto2 ns nt ds es n).2 n) (st := upto2 ns nt ds es n) (i := n) (by rw [upto2_len]; omega) with e | e
      · rw [e]; exact upto2_kind ns nt ds es j n (by omega)
      · exact .inr e
    · exact upto2_kind ns nt ds es j n (by omega)
theorem upto3_kind (ns nt : List Node) (ds es sd : List ByteArray) : ∀ n o, n ≤ es.length → upto3 ns nt ds es sd n = some o → ∀ j, n ≤ j → kindAt o j = 0 ∨ kindAt o j = 1
  | 0, o, _, h, j, _ => by rw [upto3] at h; injection h with h; rw [← h]; exact upto2_kind _ _ _ _ _ _ (Nat.le_refl _)
  | n + 1, o, hn, h, j, hj => by
    rw [upto3] at h
    cases hq : upto3 ns nt ds es sd n with
    | none => rw [hq] at h; cases h
    | some o' =>
      have ih := upto3_kind ns nt ds es sd n o' (by omega) hq j (by omega)
      have hl := upto3_len ns nt ds es sd n o' hq
      rw [hq, List.getElem?_eq_getElem (show n < es.length by omega)] at h
      simp only at h
      unfold step3 at h
      repeat' split at h
      all_goals first
        | cases h; done
        | (injection h with h; subst h; first | exact ih | (rw [kindAt_set _ _ _ _ (by omega), if_neg (by omega)]; exact ih))
/-! The sources of a content, while the third round goes on. -/
theorem ofKind_set {es : List ByteArray} {k : Int} {out : List Src} {i : Nat} {x : Src} (hi : i < out.length) (h0 : kindAt out i ≠ k) (hx : x.kind ≠ k) (b : ByteArray) : ofKind es k (out.set i x) b = ofKind es k out b := by
  unfold ofKind
  congr 1
  funext g
  rw [kindAt_set _ _ _ _ hi]
  by_cases e : g = i
  · subst e; rw [if_pos rfl]; simp [hx, h0]
  · rw [if_neg e]
theorem ofKind_none {es : List ByteArray} {k : Int} {out : List Src} {b : ByteArray} : ofKind es k out b = none ↔ ∀ g, es[g]? = some b → kindAt out g ≠ k := by
  unfold ofKind
  rw [List.find?_eq_none]
  constructor
  · intro h g hg hk
    have := h g (List.mem_range.2 (List.getElem?_eq_some_iff.1 hg).1)
    simp [hg, hk] at this
  · intro h g _ hk
    rw [Bool.and_eq_true, decide_eq_true_eq, decide_eq_true_eq] at hk
    exact h g hk.1 hk.2
theorem find_range_first {p : Nat → Bool} : ∀ {n g : Nat}, g < n → p g = true → (∀ j, j < g → p j = false) → (List.range n).find? p = some g
  | 0, _, h, _, _ => by omega
  | n + 1, g, h, hp, hf => by
    rw [List.range_succ, List.find?_append]
    by_cases e : g < n
    · rw [find_range_first e hp hf]; rfl
    · obtain rfl : g = n := by omega
      rw [List.find?_eq_none.2 (fun x hx => by rw [hf x (List.mem_range.1 hx)]; simp)]
      simp [hp]
theorem find_range_some {p : Nat → Bool} {n g : Nat} (h : (List.range n).find? p = some g) : g < n ∧ p g = true ∧ ∀ j, j < g → p j = false := by
  refine ⟨List.mem_range.1 (List.mem_of_find?_eq_some h), List.find?_some h, ?_⟩
  induction n with
  | zero => simp at h
  | succ n ih =>
    rw [List.range_succ, List.find?_append] at h
    cases hq : (List.range n).find? p with
    | some g' =>
      rw [hq] at h
      simp at h
      subst h
      exact ih hq
    | none =>
      rw [hq] at h
      simp only [Option.none_or, List.find?_singleton] at h
      split at h
      · injection h with h
        subst h
        intro j hj
        have := List.find?_eq_none.1 hq j (List.mem_range.2 hj)
        simpa using this
      · cases h
theorem src_copy {es : List ByteArray} {out : List Src} {i k : Nat} (hi : i < out.length) (h0 : kindAt out i = 0) (b : ByteArray) : srcOf es (out.set i (copyS k)) b = srcOf es out b := by
  unfold srcOf
  rw [ofKind_set hi (by omega) (by simp [copyS]), ofKind_set hi (by omega) (by simp [copyS])]
theorem src_none {es : List ByteArray} {out : List Src} {b : ByteArray} (h : srcOf es out b = none) : ofKind es 1 out b = none ∧ ofKind es 3 out b = none := by
  unfold srcOf at h
  split at h
  · cases h
  · rename_i h1; exact ⟨h1, h⟩
theorem src_new {es : List ByteArray} {out : List Src} {i k : Nat} {b : ByteArray} (hi : i < out.length) (h0 : kindAt out i = 0) (hb : es[i]? = some b) (hn : srcOf es out b = none) (c : ByteArray) : srcOf es (out.set i (newS k)) c = if c = b then some i else srcOf es out c := by
  obtain ⟨n1, n3⟩ := src_none hn
  unfold srcOf
  rw [ofKind_set hi (by omega) (by simp [newS])]
  by_cases e : c = b
  · subst e
    rw [if_pos rfl, n1]
    unfold ofKind
    refine find_range_first (List.getElem?_eq_some_iff.1 hb).1 ?_ fun j hj => ?_
    · rw [kindAt_set _ _ _ _ hi, if_pos rfl, hb]; simp [newS]
    · rw [kindAt_set _ _ _ _ hi, if_neg (by omega)]
      by_cases e1 : es[j]? = some c
      · simp [ofKind_none.1 n3 j e1]
      · simp [e1]
  · rw [if_neg e]
    have : ofKind es 3 (out.set i (newS k)) c = ofKind es 3 out c := by
      unfold ofKind
      congr 1
      funext g
      by_cases e1 : g = i
      · subst e1
        have : ¬ es[g]? = some c := fun h => e (by rw [hb] at h; injection h with h; exact h.symm)
        simp [this]
      · rw [kindAt_set _ _ _ _ hi, if_neg e1]
    rw [this]
end Go.Proofs.Ytcnpncieibmngaa

namespace Go.Proofs.Ytcnpncieibmngaa
open Go.RowKit

theorem mem_names {l : List Node} {f : Nat} {p : ByteArray} : p ∈ namesP l f ↔ ∃ x ∈ l, x.file = (f : Int) ∧ x.path = p := by
  unfold namesP picks
  simp only [List.mem_map, List.mem_filter, namesF, Bool.and_eq_true, beq_iff_eq, decide_eq_true_eq]
  exact ⟨fun ⟨x, ⟨h1, h2, _⟩, h3⟩ => ⟨x, h1, h2, h3⟩, fun ⟨x, h1, h2, h3⟩ => ⟨x, ⟨h1, h2, by omega⟩, h3⟩⟩
theorem fileOf_of {l : List Node} (hR : Rises l) {x : Node} (hx : x ∈ l) : fileOfP l x.path = if x.file < 0 then none else some x.file.toNat := by
  unfold fileOfP
  cases h : l.find? (fun y => decide (y.path = x.path)) with
  | none =>
    have := List.find?_eq_none.1 h x hx
    simp at this
  | some y =>
    have h1 := List.mem_of_find?_eq_some h
    have h2 := List.find?_some h
    simp only [decide_eq_true_eq] at h2
    have : y = x := rises_inj hR h1 hx (by unfold pathL; rw [h2])
    rw [this]
theorem fileOf_name {l : List Node} (hR : Rises l) {f : Nat} {p : ByteArray} : p ∈ namesP l f ↔ fileOfP l p = some f := by
  rw [mem_names]
  constructor
  · rintro ⟨x, hx, hf, rfl⟩
    rw [fileOf_of hR hx, if_neg (by omega), hf]
    simp
  · intro h
    unfold fileOfP at h
    cases hq : l.find? (fun y => decide (y.path = p)) with
    | none => rw [hq] at h; cases h
    | some y =>
      rw [hq] at h
      have h1 := List.mem_of_find?_eq_some hq
      have h2 := List.find?_some hq
      simp only [decide_eq_true_eq] at h2
      simp only at h
      split at h
      · cases h
      · injection h with h
        exact ⟨y, h1, by omega, h2⟩
theorem names_ne {t : TV} (hG : Good t) {f : Nat} (hf : f < t.fn) : namesP t.nodes f ≠ [] := by
  obtain ⟨x, hx, e⟩ := hG.hit f (by omega) (by exact_mod_cast hf)
  intro h
  have := mem_names.2 ⟨x, hx, e, rfl⟩
  rw [h] at this
  cases this
/-! A tree with itself. -/
def selfOut (n k : Nat) : List Src := (List.range k).map keepS ++ List.replicate (n - k) noS
theorem self_set {n k : Nat} (h : k < n) : (selfOut n k).set k (keepS k) = selfOut n (k + 1) := by
  unfold selfOut
  rw [List.set_append_right _ _ (by simp), List.length_map, List.length_range, Nat.sub_self, List.range_succ, List.map_append, List.append_assoc]
  congr 1
  rw [show n - k = (n - (k + 1)) + 1 by omega, List.replicate_succ]
  rfl
theorem self_upto1 {t : TV} (hG : Good t) (ds : List ByteArray) (hl : ds.length = t.fn) : ∀ n, n ≤ t.fn → upto1 t.nodes t.nodes ds ds n = (selfOut ds.length n, fun x => decide (x < n))
  | 0, _ => by
    rw [upto1]
    have : selfOut ds.length 0 = List.replicate ds.length noS := by simp [selfOut]
    rw [this]
    refine Prod.ext rfl (funext fun x => ?_)
    simp
  | n + 1, h => by
    rw [upto1, self_upto1 hG ds hl n (by omega)]
    have hne := names_ne hG (f := n) (by omega)
    unfold step1
    cases hq : namesP t.nodes n with
    | nil => exact absurd hq hne
    | cons p r =>
      have hp : fileOfP t.nodes p = some n := (fileOf_name hG.rises).1 (by rw [hq]; simp)
      have hfit : fits ds ds (fun x => decide (x < n)) n n = true := by simp [fits]
      simp only [namedF, hp, hfit, if_true, setK]
      rw [self_set (by omega)]
      congr 1
      funext x
      rw [Bool.eq_iff_iff, Bool.or_eq_true, beq_iff_eq, decide_eq_true_eq, decide_eq_true_eq]
      omega
theorem self_kind {n i : Nat} (h : i < n) : kindAt (selfOut n n) i = 1 := by
  have : (selfOut n n)[i]? = some (keepS i) := by simp [selfOut, h]
  rw [kindAt, this]; rfl
theorem self_upto2 {t : TV} (hG : Good t) (ds : List ByteArray) (hl : ds.length = t.fn) : ∀ n, n ≤ t.fn → upto2 t.nodes t.nodes ds ds n = (selfOut ds.length ds.length, fun x => decide (x < ds.length))
  | 0, _ => self_upto1 hG ds hl _ (by omega)
  | n + 1, h => by
    rw [upto2, self_upto2 hG ds hl n (by omega), step2, if_neg]
    rw [self_kind (by omega)]
    decide
theorem self_upto3 {t : TV} (hG : Good t) (ds sd : List ByteArray) (hl : ds.length = t.fn) : ∀ n, n ≤ t.fn → upto3 t.nodes t.nodes ds ds sd n = some (selfOut ds.length ds.length)
  | 0, _ => by rw [upto3, self_upto2 hG ds hl _ (by omega)]
  | n + 1, h => by
    rw [upto3, self_upto3 hG ds sd hl n (by omega), List.getElem?_eq_getElem (show n < ds.length by omega)]
    simp only [step3]
    rw [if_pos]
    rw [self_kind (by omega)]
    decide
/-! Contents behind the stock's own. -/
theorem stockAt_app {sd more : List ByteArray} {b : ByteArray} {k : Nat} (h : stockAt sd b = some k) : stockAt (sd ++ more) b = some k := by
  obtain ⟨h1, h2, h3⟩ := find_range_some h
  unfold stockAt
  refine find_range_first (by rw [List.length_append]; omega) ?_ fun j hj => ?_
  · rw [List.getElem?_append_left h1]; exact h2
  · rw [List.getElem?_append_left (by omega)]; exact h3 j hj
theorem step3_app {es sd : List ByteArray} (more : List ByteArray) {out o : List Src} {i : Nat} {b : ByteArray} (h : step3 es sd out i b = some o) : step3 es (sd ++ more) out i b = some o := by
  unfold step3 at h ⊢
  split at h
  · rename_i h0; rw [if_pos h0]; exact h
  · rename_i h0
    rw [if_neg h0]
    cases hs : srcOf es out b with
    | some k => rw [hs] at h; exact h
    | none =>
      rw [hs] at h
      simp only at h ⊢
      cases hk : stockAt sd b with
      | none => rw [hk] at h; cases h
      | some k => rw [hk] at h; rw [stockAt_app hk]; exact h
theorem upto3_app (ns nt : List Node) (ds es sd more : List ByteArray) : ∀ n o, upto3 ns nt ds es sd n = some o → upto3 ns nt ds es (sd ++ more) n = some o
  | 0, o, h => h
  | n + 1, o, h => by
    rw [upto3] at h ⊢
    cases hq : upto3 ns nt ds es sd n with
    | none => rw [hq] at h; cases h
    | some o' =>
      rw [hq] at h
      rw [upto3_app ns nt ds es sd more n o' hq]
      cases hb : es[n]? with
      | none => rw [hb] at h; exact h
      | some b => rw [hb] at h; exact step3_app more h
theorem stockRun_iff : ∀ (sd : List ByteArray) (left : Nat), stockRun sd left = true ↔ (∀ d ∈ sd, d.size ≤ 8192) ∧ (sd.map (·.size)).sum ≤ left
  | [], left => by simp [stockRun]
  | d :: r, left => by
    rw [stockRun]
    split
    · rename_i h
      simp only [Bool.false_eq_true, List.mem_cons, forall_eq_or_imp, List.map_cons, List.sum_cons, false_iff]
      omega
    · rename_i h
      rw [stockRun_iff r, List.map_cons, List.sum_cons]
      simp only [List.mem_cons, forall_eq_or_imp]
      constructor
      · rintro ⟨h1, h2⟩; exact ⟨⟨by omega, h1⟩, by omega⟩
      · rintro ⟨⟨_, h1⟩, h2⟩; exact ⟨h1, by omega⟩
theorem stockE_iff (sd : List ByteArray) : stockE sd = 0 ↔ sd.length ≤ 65535 ∧ (∀ d ∈ sd, d.size ≤ 8192) ∧ (sd.map (·.size)).sum ≤ 65536 := by
  unfold stockE
  rw [← stockRun_iff]
  split
  · simp; omega
  · split
    · rename_i h1 h2; simp [h2]; omega
    · rename_i h1 h2; simp [h2]
/-! A file whose names and bytes are the same in both trees. -/
theorem upto1_taken (ns nt : List Node) (ds es : List ByteArray) (g : Nat) : ∀ n, (upto1 ns nt ds es n).2 g = true → ∃ j, j < n ∧ namedF ns ds es (upto1 ns nt ds es j).2 j (namesP nt j) = some g
  | 0, h => by simp [upto1] at h
  | n + 1, h => by
    rw [upto1, step1] at h
    unfold setK at h
    cases hq : namedF ns ds es (upto1 ns nt ds es n).2 n (namesP nt n) with
    | none =>
      rw [hq] at h
      obtain ⟨j, hj, e⟩ := upto1_taken ns nt ds es g n h
      exact ⟨j, by omega, e⟩
    | some g' =>
      rw [hq] at h
      simp only [Bool.or_eq_true, beq_iff_eq] at h
      rcases h with h | h
      · exact ⟨n, by omega, by rw [hq, h]⟩
      · obtain ⟨j, hj, e⟩ := upto1_taken ns nt ds es g n h
        exact ⟨j, by omega, e⟩
theorem named_in {ns : List Node} {ds es : List ByteArray} {tk : Nat → Bool} {i g : Nat} : ∀ {l : List ByteArray}, namedF ns ds es tk i l = some g → ∃ p ∈ l, fileOfP ns p = some g ∧ fits ds es tk i g = true
  | [], h => by simp [namedF] at h
  | p :: r, h => by
    rw [namedF] at h
    cases hq : fileOfP ns p with
    | none =>
      rw [hq] at h
      obtain ⟨q, hq1, hq2⟩ := named_in (l := r) h
      exact ⟨q, List.mem_cons_of_mem _ hq1, hq2⟩
    | some g' =>
      rw [hq] at h
      simp only at h
      split at h
      · rename_i hf
        injection h with h
        subst h
        exact ⟨p, by simp, hq, hf⟩
      · obtain ⟨q, hq1, hq2⟩ := named_in (l := r) h
        exact ⟨q, List.mem_cons_of_mem _ hq1, hq2⟩
theorem upto1_get (ns nt : List Node) (ds es : List ByteArray) {i : Nat} (hi : i < es.length) {g : Nat} (h : namedF ns ds es (upto1 ns nt ds es i).2 i (namesP nt i) = some g) : ∀ n, i < n → n ≤ es.length → (upto1 ns nt ds es n).1[i]? = some (keepS g)
  | 0, h, _ => by omega
  | n + 1, hn, hl => by
    rw [upto1, step1]
    by_cases e : i = n
    · subst e
      rw [h]
      simp only [setK]
      rw [List.getElem?_set_self (by rw [upto1_len]; omega)]
    · have ih := upto1_get ns nt ds es hi h n (by omega) (by omega)
      unfold setK
      split
      · rw [List.getElem?_set_ne (fun h => e h.symm)]; exact ih
      · exact ih
theorem upto2_get (ns nt : List Node) (ds es : List ByteArray) {i : Nat} {x : Src} (hx : x.kind ≠ 0) (h : (upto1 ns nt ds es es.length).1[i]? = some x) : ∀ n, n ≤ es.length → (upto2 ns nt ds es n).1[i]? = some x
  | 0, _ => h
  | n + 1, hl => by
    have ih := upto2_get ns nt ds es hx h n (by omega)
    rw [upto2, step2]
    split
    · rename_i h0
      have hne : n ≠ i := by
        rintro rfl
        rw [kindAt, ih] at h0
        exact hx h0
      unfold setK
      split
      · rw [List.getElem?_set_ne hne]; exact ih
      · exact ih
    · exact ih
theorem upto3_get (ns nt : List Node) (ds es sd : List ByteArray) {i : Nat} {x : Src} (hx : x.kind ≠ 0) (h : (upto2 ns nt ds es es.length).1[i]? = some x) : ∀ n o, n ≤ es.length → upto3 ns nt ds es sd n = some o → o[i]? = some x
  | 0, o, _, ho => by rw [upto3] at ho; injection ho with ho; rw [← ho]; exact h
  | n + 1, o, hl, ho => by
    rw [upto3] at ho
    cases hq : upto3 ns nt ds es sd n with
    | none => rw [hq] at ho; cases ho
    | some o' =>
      have ih := upto3_get ns nt ds es sd hx h n o' (by omega) hq
      rw [hq, List.getElem?_eq_getElem (show n < es.length by omega)] at ho
      simp only at ho
      unfold step3 at ho
      by_cases h0 : kindAt o' n ≠ 0
      · rw [if_pos h0] at ho; injection ho with ho; rw [← ho]; exact ih
      · rw [if_neg h0] at ho
        have hne : n ≠ i := by
          rintro rfl
          apply h0
          rw [kindAt, ih]
          exact hx
        repeat' split at ho
        all_goals first
          | cases ho; done
          | (injection ho with ho; rw [← ho, List.getElem?_set_ne hne]; exact ih)
/-- A file whose names and bytes are the same in both trees is kept as itself. -/
theorem stays_law {ns nt : List Node} (hs : Rises ns) (ht : Rises nt) {ds es sd : List ByteArray} {f g : Nat} (hf : f < es.length) (hne : namesP nt f ≠ []) (hn : namesP ns g = namesP nt f) (hb : ds[g]? = es[f]?) {o : List Src} (ho : upto3 ns nt ds es sd es.length = some o) : o[f]? = some (keepS g) := by
  refine upto3_get ns nt ds es sd (by simp [keepS]) (upto2_get ns nt ds es (by simp [keepS]) (upto1_get ns nt ds es hf ?_ _ hf (Nat.le_refl _)) _ (Nat.le_refl _)) _ _ (Nat.le_refl _) ho
  have hfree : (upto1 ns nt ds es f).2 g = false := by
    cases hq : (upto1 ns nt ds es f).2 g with
    | false => rfl
    | true =>
      obtain ⟨j, hj, e⟩ := upto1_taken ns nt ds es g f hq
      obtain ⟨p, hp, h1, _⟩ := named_in e
      have h2 := (fileOf_name hs).2 h1
      rw [hn] at h2
      have h3 := (fileOf_name ht).1 h2
      rw [(fileOf_name ht).1 hp] at h3
      injection h3 with h3
      omega
  cases hq : namesP nt f with
  | nil => exact absurd hq hne
  | cons p r =>
    have h1 : fileOfP ns p = some g := (fileOf_name hs).1 (by rw [hn, hq]; simp)
    have h2 : fits ds es (upto1 ns nt ds es f).2 f g = true := by simp [fits, hb, hfree]
    simp only [namedF, h1, h2, if_true]
end Go.Proofs.Ytcnpncieibmngaa
