/- Form and Loose say one. -/
import Derived.Test.YtanaccoelifcpaaRef6
import Derived.Sort.Walk0
namespace Go.Proofs.Ytanaccoelifcpaa
open Go.RowKit

abbrev pathL (x : Node) : List UInt8 := x.path.data.toList
theorem less_lt (a b : ByteArray) : Op.bytesLess a.toList b.toList = decide (a.data.toList < b.data.toList) := by rw [bytesLess_eq, ByteArray.toList_eq, ByteArray.toList_eq]
theorem lt_irr (a : List UInt8) : ¬ a < a := List.lt_irrefl a
theorem lt_tr {a b c : List UInt8} (h : a < b) (k : b < c) : a < c := List.lt_trans h k
theorem lt_or (a b : List UInt8) : a < b ∨ a = b ∨ b < a := by
  by_cases h1 : a < b
  · exact .inl h1
  · by_cases h2 : b < a
    · exact .inr (.inr h2)
    · exact .inr (.inl (List.le_antisymm h2 h1))
theorem leS_no (a b : ByteArray) : leS a b = false ↔ b.data.toList < a.data.toList := by
  rw [leS, less_lt, ByteArray.toList_eq, ByteArray.toList_eq]
  simp only [Bool.or_eq_false_iff, decide_eq_false_iff_not, beq_eq_false_iff_ne]
  constructor
  · rintro ⟨h1, h2⟩
    rcases lt_or a.data.toList b.data.toList with h | h | h
    · exact absurd h h1
    · exact absurd h h2
    · exact h
  · intro h
    exact ⟨fun k => lt_irr _ (lt_tr h k), fun k => by rw [k] at h; exact lt_irr _ h⟩
theorem nil_lt {a : List UInt8} (h : a ≠ []) : [] < a := by
  cases a with
  | nil => exact absurd rfl h
  | cons => exact List.nil_lt_cons _ _
theorem take_lt : ∀ (l : List UInt8) (k : Nat), k < l.length → l.take k < l
  | [], k, h => by simp at h
  | a :: t, 0, _ => List.nil_lt_cons _ _
  | a :: t, k + 1, h => by
    rw [List.take_succ_cons, List.cons_lt_cons_iff]
    exact .inr ⟨rfl, take_lt t k (by simpa using h)⟩
theorem valid_ne {l : List UInt8} (h : validL l = true) : l ≠ [] := by
  rintro rfl; cases h
theorem parent_lt {s : ByteArray} (h : validL s.data.toList = true) : (parentB s).data.toList < s.data.toList := by
  unfold parentB
  rw [if_pos h, ByteArray.data_extract, Array.toList_extract, List.extract_eq_take_drop, List.drop_zero, Nat.sub_zero]
  refine take_lt _ _ ?_
  have h1 := lastTo_lt s.data.toList 47 s.size
  have h2 : s.data.toList.length ≠ 0 := fun e => valid_ne h (List.eq_nil_of_length_eq_zero e)
  rw [dlen] at h2 ⊢
  unfold lastIx
  omega
/-- The nodes' paths rise. -/
def Rises (l : List Node) : Prop := l.Pairwise fun x y => pathL x < pathL y
theorem rises_inj : ∀ {l : List Node}, Rises l → ∀ {y z : Node}, y ∈ l → z ∈ l → pathL y = pathL z → y = z
  | [], _, _, _, h, _, _ => by cases h
  | x :: t, hR, y, z, hy, hz, e => by
    have ⟨h1, h2⟩ := List.pairwise_cons.1 hR
    rcases List.mem_cons.1 hy with e1 | hy
    · rcases List.mem_cons.1 hz with e2 | hz
      · exact e1.trans e2.symm
      · have h3 := h1 z hz; rw [← e, e1] at h3; exact absurd h3 (lt_irr _)
    · rcases List.mem_cons.1 hz with e2 | hz
      · have h3 := h1 y hy; rw [e, e2] at h3; exact absurd h3 (lt_irr _)
      · exact rises_inj h2 hy hz e
theorem findFrom_spec (p : ByteArray) : ∀ (l : List Node) (i : Int), (findFrom p l i = -1 ∧ ∀ y ∈ l, pathL y ≠ p.data.toList) ∨ ∃ (j : Nat) (y : Node), findFrom p l i = i + j ∧ l[j]? = some y ∧ pathL y = p.data.toList
  | [], i => .inl ⟨rfl, fun y hy => by cases hy⟩
  | x :: t, i => by
    rw [findFrom]
    by_cases h : (x.path.toList == p.toList) = true
    · rw [if_pos h]
      refine .inr ⟨0, x, by omega, rfl, ?_⟩
      show x.path.data.toList = _; rw [← ByteArray.toList_eq, ← ByteArray.toList_eq]; exact beq_iff_eq.1 h
    · rw [if_neg h]
      have hne : pathL x ≠ p.data.toList := by
        intro e; apply h; rw [beq_iff_eq, ByteArray.toList_eq, ByteArray.toList_eq]; exact e
      rcases findFrom_spec p t (i + 1) with ⟨h1, h2⟩ | ⟨j, y, h1, h2, h3⟩
      · refine .inl ⟨h1, fun y hy => ?_⟩
        rcases List.mem_cons.1 hy with rfl | hy
        · exact hne
        · exact h2 y hy
      · exact .inr ⟨j + 1, y, by rw [h1]; omega, h2, h3⟩
/-- Is a path the root or a directory of the list? -/
def DirIn (l : List Node) (q : List UInt8) : Prop := q = [] ∨ ∃ y ∈ l, pathL y = q ∧ y.file = -1
theorem isEmpty_iff' (q : ByteArray) : q.toList.isEmpty = true ↔ q.data.toList = [] := by rw [ByteArray.toList_eq, List.isEmpty_iff]
theorem upBad_iff {l : List Node} (hR : Rises l) (x : Node) : upBad l x = false ↔ DirIn l (parentB x.path).data.toList := by
  unfold upBad DirIn
  by_cases he : (parentB x.path).data.toList = []
  · rw [(isEmpty_iff' _).2 he]
    exact ⟨fun _ => .inl he, fun _ => rfl⟩
  · have h0 : (parentB x.path).toList.isEmpty = false := by
      cases hq : (parentB x.path).toList.isEmpty
      · rfl
      · exact absurd ((isEmpty_iff' _).1 hq) he
    rw [h0]
    simp only [Bool.not_false, Bool.true_and, Bool.or_eq_false_iff, decide_eq_false_iff_not, bne_eq_false_iff_eq, he, false_or]
    rcases findFrom_spec (parentB x.path) l 0 with ⟨h1, h2⟩ | ⟨j, y, h1, h2, h3⟩
    · constructor
      · rintro ⟨h, _⟩
        have : findI l (parentB x.path) = -1 := h1
        omega
      · rintro ⟨y, hy, h3, _⟩
        exact absurd h3 (h2 y hy)
    · have e1 : findI l (parentB x.path) = j := by rw [findI, h1]; omega
      rw [e1, Int.toNat_natCast, h2]
      simp only [Option.map_some, Option.getD_some]
      constructor
      · rintro ⟨_, h⟩
        exact ⟨y, List.mem_of_getElem? h2, h3, h⟩
      · rintro ⟨z, hz, h4, h5⟩
        have : z = y := rises_inj hR hz (List.mem_of_getElem? h2) (h4.trans h3.symm)
        subst this
        exact ⟨by omega, h5⟩
theorem dirIn_pre {pre rest : List Node} {x : Node} (hR : Rises (pre ++ x :: rest)) {q : List UInt8} (hq : q < pathL x) : DirIn (pre ++ x :: rest) q ↔ DirIn pre q := by
  constructor
  · rintro (h | ⟨y, hy, h1, h2⟩)
    · exact .inl h
    · rcases List.mem_append.1 hy with hy | hy
      · exact .inr ⟨y, hy, h1, h2⟩
      · exfalso
        have ⟨_, h3, _⟩ := List.pairwise_append.1 hR
        have ⟨h4, _⟩ := List.pairwise_cons.1 h3
        rcases List.mem_cons.1 hy with rfl | hy
        · rw [h1] at hq; exact lt_irr _ hq
        · have := h4 y hy; rw [h1] at this; exact lt_irr _ (lt_tr hq this)
  · rintro (h | ⟨y, hy, h1, h2⟩)
    · exact .inl h
    · exact .inr ⟨y, List.mem_append_left _ hy, h1, h2⟩
theorem form_rises (l : List Node) (fn : Int) : ∀ (rest : List Node) (prev : Option ByteArray) (next r : Int), formRun l fn rest prev next = some r → Rises rest ∧ ∀ q, prev = some q → ∀ y ∈ rest, q.data.toList < pathL y
  | [], prev, next, r, h => ⟨List.Pairwise.nil, fun _ _ y hy => by cases hy⟩
  | x :: t, prev, next, r, h => by
    rw [formRun] at h
    split at h
    · cases h
    · rename_i h1
      have key : ∃ n', formRun l fn t (some x.path) n' = some r := by
        split at h
        · cases h
        · split at h
          · split at h
            · exact ⟨_, h⟩
            · cases h
          · split at h
            · cases h
            · exact ⟨_, h⟩
      obtain ⟨n', h'⟩ := key
      have ⟨h2, h3⟩ := form_rises l fn t _ _ _ h'
      have h4 := h3 _ rfl
      refine ⟨List.pairwise_cons.2 ⟨h4, h2⟩, fun q hq y hy => ?_⟩
      subst hq
      have hlt : q.data.toList < pathL x := by
        simp only [Bool.not_eq_true, Bool.or_eq_false_iff, prevBad, Bool.not_eq_false', less_lt, decide_eq_true_eq] at h1
        exact h1.2
      rcases List.mem_cons.1 hy with rfl | hy
      · exact hlt
      · exact lt_tr hlt (h4 y hy)
theorem loose_rises : ∀ (rest : List Node) (f : List UInt8 → Int) (files : Int) (last : ByteArray) (r : Int), looseRun rest f files last = some r → Rises rest ∧ ∀ y ∈ rest, last.data.toList < pathL y
  | [], _, _, _, _, _ => ⟨List.Pairwise.nil, fun y hy => by cases hy⟩
  | x :: t, f, files, last, r, h => by
    rw [looseRun] at h
    split at h
    · cases h
    · rename_i h1
      have key : ∃ f' n', looseRun t f' n' x.path = some r := by
        split at h
        · split at h
          · exact ⟨_, _, h⟩
          · cases h
        · split at h
          · exact ⟨_, _, h⟩
          · cases h
      obtain ⟨f', n', h'⟩ := key
      have ⟨h2, h3⟩ := loose_rises t _ _ _ _ h'
      have hlt : last.data.toList < pathL x := by
        simp only [Bool.not_eq_true, badNode, Bool.or_eq_false_iff, leS_no] at h1
        exact h1.2.1
      refine ⟨List.pairwise_cons.2 ⟨h3, h2⟩, fun y hy => ?_⟩
      rcases List.mem_cons.1 hy with rfl | hy
      · exact hlt
      · exact lt_tr hlt (h3 y hy)
theorem loose_le : ∀ (rest : List Node) (f : List UInt8 → Int) (files : Int) (last : ByteArray) (r : Int), looseRun rest f files last = some r → files ≤ r
  | [], _, _, _, _, h => by rw [looseRun] at h; injection h with h; omega
  | x :: t, f, files, last, r, h => by
    rw [looseRun] at h
    split at h
    · cases h
    · split at h
      · split at h
        · exact loose_le t _ _ _ _ h
        · cases h
      · split at h
        · have := loose_le t _ _ _ _ h
          split at this <;> omega
        · cases h
/-- What the table of kinds says of the nodes behind. -/
def KInv (f : List UInt8 → Int) (pre : List Node) : Prop := ∀ q, f q = 1 ↔ DirIn pre q
def LastIs (pre : List Node) (prev : Option ByteArray) (last : ByteArray) : Prop := (pre = [] ∧ prev = none ∧ last = ByteArray.empty) ∨ ∃ ps y, pre = ps ++ [y] ∧ prev = some y.path ∧ last = y.path
theorem kinv_step {pre rest : List Node} {x : Node} {f : List UInt8 → Int} (hR : Rises (pre ++ x :: rest)) (h : KInv f pre) (hv : validL x.path.data.toList = true) {g : List UInt8 → Int} (h1 : ∀ q, q ≠ pathL x → g q = f q) (h2 : g (pathL x) = 1 ↔ x.file = -1) : KInv g (pre ++ [x]) := by
  intro q
  have ⟨_, _, h4⟩ := List.pairwise_append.1 hR
  by_cases hq : q = pathL x
  · subst hq
    rw [h2]
    constructor
    · intro h5; exact .inr ⟨x, by simp, rfl, h5⟩
    · rintro (h5 | ⟨y, hy, h5, h6⟩)
      · exact absurd h5 (valid_ne hv)
      · rcases List.mem_append.1 hy with hy | hy
        · have := h4 y hy x (by simp); rw [h5] at this; exact absurd this (lt_irr _)
        · have : y = x := by simpa using hy
          subst this; exact h6
  · rw [h1 q hq, h q]
    constructor
    · rintro (h5 | ⟨y, hy, h5, h6⟩)
      · exact .inl h5
      · exact .inr ⟨y, List.mem_append_left _ hy, h5, h6⟩
    · rintro (h5 | ⟨y, hy, h5, h6⟩)
      · exact .inl h5
      · rcases List.mem_append.1 hy with hy | hy
        · exact .inr ⟨y, hy, h5, h6⟩
        · have : y = x := by simpa using hy
          subst this; exact absurd h5.symm hq
theorem run_one (nodes : List Node) (fn : Int) (hR : Rises nodes) : ∀ (rest pre : List Node) (f : List UInt8 → Int) (files : Int) (last : ByteArray) (prev : Option ByteArray) (r : Int), nodes = pre ++ rest → KInv f pre → LastIs pre prev last → 0 ≤ files →
    (formRun nodes fn rest prev files = some r → looseRun rest f files last = some r) ∧ (looseRun rest f files last = some r → r ≤ fn → formRun nodes fn rest prev files = some r)
  | [], pre, f, files, last, prev, r, _, _, _, _ => ⟨fun h => h, fun h _ => h⟩
  | x :: t, pre, f, files, last, prev, r, hn, hK, hL, h0 => by
    have hRn : Rises (pre ++ x :: t) := hn ▸ hR
    have hn' : nodes = (pre ++ [x]) ++ t := by rw [hn]; simp
    have ⟨_, _, hpx⟩ := List.pairwise_append.1 hRn
    have hprev : prevBad prev x.path = false := by
      rcases hL with ⟨_, rfl, _⟩ | ⟨ps, y, rfl, rfl, _⟩
      · rfl
      · rw [prevBad, less_lt, decide_eq_true (hpx y (by simp) x (by simp))]; rfl
    cases hv : validL x.path.data.toList with
    | false =>
      constructor
      · intro h; rw [formRun, if_pos (by rw [hv]; rfl)] at h; cases h
      · intro h; rw [looseRun, if_pos (by rw [badNode, hv]; rfl)] at h; cases h
    | true =>
      have hlast : leS x.path last = false := by
        rw [leS_no]
        rcases hL with ⟨_, _, rfl⟩ | ⟨ps, y, rfl, _, rfl⟩
        · exact nil_lt (valid_ne hv)
        · exact hpx y (by simp) x (by simp)
      have hL' : LastIs (pre ++ [x]) (some x.path) x.path := .inr ⟨pre, x, rfl, rfl, rfl⟩
      have hup : upBad nodes x = false ↔ f (parentB x.path).data.toList = 1 := by
        rw [upBad_iff hR x, hK, hn]
        exact dirIn_pre hRn (parent_lt hv)
      cases hu : upBad nodes x with
      | true =>
        have hf : ¬ f (parentB x.path).data.toList = 1 := fun e => by rw [hup.2 e] at hu; cases hu
        constructor
        · intro h; rw [formRun, if_neg (by rw [hv, hprev]; simp), if_pos hu] at h; cases h
        · intro h
          rw [looseRun, if_pos (by rw [badNode, hlast, hv]; simp [hf])] at h; cases h
      | false =>
        have hf := hup.1 hu
        have hform : formRun nodes fn (x :: t) prev files = if x.file = -1 then (if okMode x.mode = true then formRun nodes fn t (some x.path) files else none) else if fileBad x files fn = true then none else formRun nodes fn t (some x.path) (if x.file = files then files + 1 else files) := by
          rw [formRun, if_neg (by rw [hv, hprev]; simp), if_neg (by rw [hu]; simp)]
        have hbn : badNode x f files last = (decide (x.file < -1) || decide (files < x.file)) := by rw [badNode, hv, hlast, hf]; rfl
        have hloose : looseRun (x :: t) f files last = if (decide (x.file < -1) || decide (files < x.file)) = true then none else if x.file = -1 then (if okMode x.mode = true then looseRun t (fun k => if k = pathL x then 1 else if k = pathL x then 2 else f k) files x.path else none)
            else if x.mode = 0 then looseRun t (fun k => if k = pathL x then 2 else f k) (if x.file = files then files + 1 else files) x.path else none := by rw [looseRun, hbn]
        by_cases a5 : x.file = -1
        · have hb : (decide (x.file < -1) || decide (files < x.file)) = false := by rw [decide_eq_false (by omega), decide_eq_false (by omega)]; rfl
          by_cases a6 : okMode x.mode = true
          · rw [hform.trans ((if_pos a5).trans (if_pos a6)), hloose.trans ((if_neg (by rw [hb]; simp)).trans ((if_pos a5).trans (if_pos a6)))]
            exact run_one nodes fn hR t (pre ++ [x]) _ files x.path _ r hn' (kinv_step hRn hK hv (fun q hq => by rw [if_neg hq, if_neg hq]) (by rw [if_pos rfl]; simp [a5])) hL' h0
          · rw [hform.trans ((if_pos a5).trans (if_neg a6)), hloose.trans ((if_neg (by rw [hb]; simp)).trans ((if_pos a5).trans (if_neg a6)))]
            exact ⟨fun h => h, fun h _ => h⟩
        · by_cases a7 : x.mode = 0
          · by_cases a8 : x.file < -1 ∨ files < x.file
            · have hb : (decide (x.file < -1) || decide (files < x.file)) = true := by simpa using a8
              have hfb : fileBad x files fn = true := by
                unfold fileBad
                simp only [Bool.or_eq_true, decide_eq_true_eq]
                rcases a8 with h | h
                · exact .inl (.inl (.inr (by omega)))
                · exact .inl (.inr h)
              rw [hform.trans ((if_neg a5).trans (if_pos hfb)), hloose.trans (if_pos hb)]
              exact ⟨fun h => h, fun h _ => h⟩
            · have hb : (decide (x.file < -1) || decide (files < x.file)) = false := by rw [decide_eq_false (by omega), decide_eq_false (by omega)]; rfl
              rw [hloose.trans ((if_neg (by rw [hb]; simp)).trans ((if_neg a5).trans (if_pos a7)))]
              have ih := fun fl h => run_one nodes fn hR t (pre ++ [x]) (fun k => if k = pathL x then 2 else f k) fl x.path (some x.path) r hn' (kinv_step hRn hK hv (fun q hq => by rw [if_neg hq]) (by rw [if_pos rfl]; simp [a5])) hL' h
              have h0' : 0 ≤ (if x.file = files then files + 1 else files) := by split <;> omega
              by_cases a9 : fn ≤ x.file
              · have hfb : fileBad x files fn = true := by
                  unfold fileBad
                  simp only [Bool.or_eq_true, decide_eq_true_eq]
                  exact .inr a9
                rw [hform.trans ((if_neg a5).trans (if_pos hfb))]
                refine ⟨fun h => (by cases h), fun h hr => ?_⟩
                have := loose_le _ _ _ _ _ h
                split at this <;> omega
              · have hfb : fileBad x files fn = false := by
                  unfold fileBad
                  rw [decide_eq_false (show ¬ x.file < 0 by omega), decide_eq_false (show ¬ files < x.file by omega), decide_eq_false a9, a7]; rfl
                rw [hform.trans ((if_neg a5).trans (if_neg (by rw [hfb]; simp)))]
                exact ih _ h0'
          · have hfb : fileBad x files fn = true := by
              unfold fileBad
              simp only [Bool.or_eq_true]
              exact .inl (.inl (.inl (bne_iff_ne.2 a7)))
            have h2 : looseRun (x :: t) f files last = none := hloose.trans (by split <;> first | rfl | (rw [if_neg a5, if_neg a7]))
            rw [hform.trans ((if_neg a5).trans (if_pos hfb)), h2]
            exact ⟨fun h => h, fun h _ => h⟩
theorem kinv_0 : KInv k0 [] := by
  intro q
  unfold k0 DirIn
  by_cases h : q = [] <;> simp [h]
/-- Loose, as the document says it. -/
theorem looseE_form (t : TV) : looseE t = if boundB t = true then 31 else if formB t = true then 0 else 30 := by
  unfold looseE
  by_cases hb : boundB t = true
  · rw [if_pos hb, if_pos hb]
  · rw [if_neg hb, if_neg hb]
    have key : ∀ r, Rises t.nodes → ((formRun t.nodes t.fn t.nodes none 0 = some r → looseRun t.nodes k0 0 ByteArray.empty = some r) ∧ (looseRun t.nodes k0 0 ByteArray.empty = some r → r ≤ t.fn → formRun t.nodes t.fn t.nodes none 0 = some r)) := fun r hR =>
      run_one t.nodes t.fn hR t.nodes [] k0 0 ByteArray.empty none r rfl kinv_0 (.inl ⟨rfl, rfl, rfl⟩) (Int.le_refl _)
    unfold formB
    cases hl : looseRun t.nodes k0 0 ByteArray.empty with
    | none =>
      cases hf : formRun t.nodes t.fn t.nodes none 0 with
      | none => rfl
      | some r => have := (key r (form_rises _ _ _ _ _ _ hf).1).1 hf; rw [hl] at this; cases this
    | some r =>
      have hR := (loose_rises _ _ _ _ _ hl).1
      by_cases hr : r = t.fn
      · have hf := (key r hR).2 hl (by omega)
        rw [hf]
        by_cases ha : (t.files.all fun x => okMode x.mode) = true <;> simp [hr, ha]
      · cases hf : formRun t.nodes t.fn t.nodes none 0 with
        | none => simp [hr]
        | some r' =>
          have := (key r' hR).1 hf
          rw [hl] at this; injection this with this; subst this
          simp [hr]
end Go.Proofs.Ytanaccoelifcpaa
