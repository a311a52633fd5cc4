/- What a loose tree is, in plain words. -/
import Derived.Test.YtanaccoelifcpaaFormP
import Derived.Test.YtanaccoelifcpaaNamesR
namespace Go.Proofs.Ytanaccoelifcpaa
open Go.RowKit

structure Good (t : TV) : Prop where
  nn : t.nn ≤ 256
  fn : t.fn ≤ 256
  small : ∀ x ∈ t.files, x.n ≤ 8192
  rises : Rises t.nodes
  valid : ∀ x ∈ t.nodes, validL (pathL x) = true
  dir : ∀ x ∈ t.nodes, DirIn t.nodes (parentB x.path).data.toList
  kind : ∀ x ∈ t.nodes, (x.file = -1 ∧ okMode x.mode = true) ∨ (0 ≤ x.file ∧ x.file < t.fn ∧ x.mode = 0)
  hit : ∀ f : Int, 0 ≤ f → f < t.fn → ∃ x ∈ t.nodes, x.file = f
  modes : ∀ x ∈ t.files, okMode x.mode = true
theorem form_all (l : List Node) (fn : Int) : ∀ (rest : List Node) (prev : Option ByteArray) (next r : Int), formRun l fn rest prev next = some r → 0 ≤ next →
    (∀ x ∈ rest, validL (pathL x) = true ∧ upBad l x = false ∧ ((x.file = -1 ∧ okMode x.mode = true) ∨ (0 ≤ x.file ∧ x.file < fn ∧ x.mode = 0))) ∧ (∀ f, next ≤ f → f < r → ∃ x ∈ rest, x.file = f)
  | [], prev, next, r, h, _ => ⟨fun x hx => (by cases hx), fun f h1 h2 => by rw [formRun] at h; injection h with h; omega⟩
  | x :: t, prev, next, r, h, h0 => by
    rw [formRun] at h
    split at h
    · cases h
    · rename_i h1
      simp only [Bool.not_eq_true, Bool.or_eq_false_iff, Bool.not_eq_false'] at h1
      split at h
      · cases h
      · rename_i h2
        rw [Bool.not_eq_true] at h2
        split at h
        · rename_i h3
          split at h
          · rename_i h4
            have ⟨i1, i2⟩ := form_all l fn t _ _ _ h h0
            refine ⟨fun y hy => ?_, fun f g1 g2 => ?_⟩
            · rcases List.mem_cons.1 hy with rfl | hy
              · exact ⟨h1.1, h2, .inl ⟨h3, h4⟩⟩
              · exact i1 y hy
            · obtain ⟨y, hy, e⟩ := i2 f g1 g2
              exact ⟨y, List.mem_cons_of_mem _ hy, e⟩
          · cases h
        · rename_i h3
          split at h
          · cases h
          · rename_i h4
            simp only [fileBad, Bool.not_eq_true, Bool.or_eq_false_iff, bne_eq_false_iff_eq, decide_eq_false_iff_not] at h4
            have ⟨i1, i2⟩ := form_all l fn t _ _ _ h (by split <;> omega)
            refine ⟨fun y hy => ?_, fun f g1 g2 => ?_⟩
            · rcases List.mem_cons.1 hy with rfl | hy
              · exact ⟨h1.1, h2, .inr ⟨by omega, by omega, h4.1.1.1⟩⟩
              · exact i1 y hy
            · by_cases e : x.file = f
              · exact ⟨x, by simp, e⟩
              · obtain ⟨y, hy, e⟩ := i2 f (by split <;> omega) g2
                exact ⟨y, List.mem_cons_of_mem _ hy, e⟩
theorem good_of_loose {t : TV} (h : looseE t = 0) : Good t := by
  rw [looseE_form] at h
  split at h
  · cases h
  · rename_i hb
    split at h
    · rename_i hf
      unfold formB at hf
      split at hf
      · rename_i r hr
        rw [Bool.and_eq_true, decide_eq_true_eq, List.all_eq_true] at hf
        obtain ⟨ha, rfl⟩ := hf
        have ⟨i1, i2⟩ := form_all _ _ _ _ _ _ hr (Int.le_refl _)
        have hR := (form_rises _ _ _ _ _ _ hr).1
        simp only [Bool.not_eq_true, boundB, Bool.or_eq_false_iff, decide_eq_false_iff_not, anyLong, List.any_eq_false] at hb
        exact ⟨by omega, by omega, fun x hx => by have := hb.2 x hx; simpa using this, hR, fun x hx => (i1 x hx).1, fun x hx => (upBad_iff hR x).1 (i1 x hx).2.1, fun x hx => (i1 x hx).2.2, fun f h1 h2 => i2 f h1 h2, ha⟩
      · cases hf
    · cases h
theorem rises_get {l : List Node} (hR : Rises l) {i j : Nat} {x y : Node} (hx : l[i]? = some x) (hy : l[j]? = some y) (h : pathL x = pathL y) : i = j := by
  obtain ⟨hi, ei⟩ := List.getElem?_eq_some_iff.1 hx
  obtain ⟨hj, ej⟩ := List.getElem?_eq_some_iff.1 hy
  rcases Nat.lt_trichotomy i j with hlt | heq | hlt
  · have := List.pairwise_iff_getElem.1 hR i j hi hj hlt
    rw [ei, ej, h] at this
    exact absurd this (lt_irr _)
  · exact heq
  · have := List.pairwise_iff_getElem.1 hR j i hj hi hlt
    rw [ei, ej, h] at this
    exact absurd this (lt_irr _)
theorem find_here {l : List Node} (hR : Rises l) {i : Nat} {x : Node} (hx : l[i]? = some x) : findI l x.path = i := by
  rcases findFrom_spec x.path l 0 with ⟨_, h2⟩ | ⟨j, y, h1, h2, h3⟩
  · exact absurd rfl (h2 x (List.mem_of_getElem? hx))
  · have := rises_get hR h2 hx h3
    subst this
    rw [findI, h1]; omega
theorem kidsF_iff (p : ByteArray) (y : Node) : kidsF p y = true ↔ (parentB y.path).data.toList = p.data.toList := by
  rw [kidsF, beq_iff_eq, ByteArray.toList_eq, ByteArray.toList_eq]
theorem namesF_iff (f : Int) (y : Node) : namesF f y = true ↔ y.file = f ∧ 0 ≤ f := by
  rw [namesF, Bool.and_eq_true, beq_iff_eq, decide_eq_true_eq]
/-- A file has nothing below it. -/
theorem file_no_kids {t : TV} (h : Good t) {x : Node} (hx : x ∈ t.nodes) (hf : x.file ≠ -1) : picks (kidsF x.path) t.nodes = [] := by
  unfold picks
  rw [List.filter_eq_nil_iff.2, List.map_nil]
  intro y hy hk
  rw [kidsF_iff] at hk
  rcases h.dir y hy with e | ⟨z, hz, e1, e2⟩
  · rw [hk] at e
    exact valid_ne (h.valid x hx) e
  · have := rises_inj h.rises hz hx (e1.trans hk)
    subst this
    exact hf e2
def cntK (all l : List Node) : Nat := (l.map fun x => (picks (kidsF x.path) all).length).sum
theorem cntK_snoc (all l : List Node) (x : Node) : cntK all (l ++ [x]) = cntK all l + (picks (kidsF x.path) all).length := by simp [cntK]
theorem picks_count (f : Node → Bool) (l : List Node) : (picks f l).length = l.countP f := by rw [picks, List.length_map, List.countP_eq_length_filter]
theorem zeros {β : Type} : ∀ bs : List β, (bs.map fun _ => 0).sum = 0
  | [] => rfl
  | _ :: t => by simp only [List.map_cons, List.sum_cons, Nat.zero_add]; exact zeros t
/-- Each node stands below one path. -/
theorem count_once {β : Type} (g : β → Node → Bool) (bs : List β) : ∀ l : List Node, (∀ y ∈ l, (bs.filter fun b => g b y).length = 1) → (bs.map fun b => l.countP (g b)).sum = l.length
  | [], _ => by
    simp only [List.countP_nil, List.length_nil]
    exact zeros bs
  | y :: t, h => by
    have ih := count_once g bs t fun z hz => h z (List.mem_cons_of_mem _ hz)
    have h1 := h y (by simp)
    have key : (bs.map fun b => (y :: t).countP (g b)).sum = (bs.map fun b => t.countP (g b)).sum + (bs.filter fun b => g b y).length := by
      clear ih h1 h
      induction bs with
      | nil => rfl
      | cons b r ih =>
        simp only [List.map_cons, List.sum_cons]
        rw [ih, List.countP_cons, List.filter_cons]
        by_cases hb : g b y = true
        · simp only [hb, if_true, List.length_cons]; omega
        · simp only [hb]; simp; omega
    rw [key, ih, h1, List.length_cons]
theorem filter_one {β : Type} {bs : List β} {p : β → Bool} {b : β} {i : Nat} (hb : bs[i]? = some b) (h1 : p b = true) (h2 : ∀ j c, bs[j]? = some c → p c = true → j = i) : (bs.filter p).length = 1 := by
  induction bs generalizing i with
  | nil => simp at hb
  | cons c t ih =>
    cases i with
    | zero =>
      simp at hb
      subst hb
      rw [List.filter_cons, if_pos h1, List.length_cons, List.filter_eq_nil_iff.2]
      · rfl
      · intro d hd hp
        obtain ⟨j, hj⟩ := List.getElem?_of_mem hd
        have := h2 (j + 1) d (by simpa using hj) hp
        omega
    | succ i =>
      have hc : ¬ p c = true := fun e => by have := h2 0 c rfl e; omega
      rw [List.filter_cons, if_neg hc]
      exact ih (i := i) (by simpa using hb) fun j d hj hp => by have := h2 (j + 1) d (by simpa using hj) hp; omega
/-- All kids together are all nodes. -/
theorem kids_all {t : TV} (h : Good t) : (picks (kidsF ByteArray.empty) t.nodes).length + cntK t.nodes t.nodes = t.nodes.length := by
  have key := count_once (β := ByteArray) kidsF (ByteArray.empty :: t.nodes.map (·.path)) t.nodes fun y hy => by
    rcases h.dir y hy with e | ⟨z, hz, e1, e2⟩
    · refine filter_one (i := 0) (b := ByteArray.empty) rfl ((kidsF_iff _ _).2 e) fun j c hj hp => ?_
      cases j with
      | zero => rfl
      | succ j =>
        exfalso
        rw [List.getElem?_cons_succ, List.getElem?_map] at hj
        obtain ⟨z, hz, rfl⟩ := Option.map_eq_some_iff.1 hj
        rw [kidsF_iff, e] at hp
        exact valid_ne (h.valid z (List.mem_of_getElem? hz)) hp.symm
    · obtain ⟨i, hi⟩ := List.getElem?_of_mem hz
      refine filter_one (i := i + 1) (b := z.path) (by simp [hi]) ((kidsF_iff _ _).2 e1.symm) fun j c hj hp => ?_
      rw [kidsF_iff, ← e1] at hp
      cases j with
      | zero =>
        exfalso
        simp at hj
        subst hj
        exact valid_ne (h.valid z hz) hp
      | succ j =>
        rw [List.getElem?_cons_succ, List.getElem?_map] at hj
        obtain ⟨z', hz', rfl⟩ := Option.map_eq_some_iff.1 hj
        have := rises_get h.rises hi hz' hp
        omega
  rw [List.map_cons, List.sum_cons, List.map_map] at key
  rw [← key, picks_count]
  congr 1
  unfold cntK
  congr 1
  refine List.map_congr_left fun x _ => ?_
  rw [picks_count]; rfl
def cntN (all : List Node) (j : Nat) : Nat := ((List.range j).map fun (f : Nat) => (picks (namesF (f : Int)) all).length).sum
theorem cntN_succ (all : List Node) (j : Nat) : cntN all (j + 1) = cntN all j + (picks (namesF j) all).length := by simp [cntN, List.range_succ]
def cntD (l : List Node) : Nat := l.countP fun x => x.file == -1
theorem cntD_snoc (l : List Node) (x : Node) : cntD (l ++ [x]) = cntD l + if x.file = -1 then 1 else 0 := by
  simp only [cntD, List.countP_append, List.countP_singleton, beq_iff_eq]
/-- All names and all directories together are all nodes. -/
theorem names_all {t : TV} (h : Good t) : cntN t.nodes t.fn + cntD t.nodes = t.nodes.length := by
  have key := count_once (β := Int) (fun f y => y.file == f) (-1 :: (List.range t.fn).map fun (f : Nat) => (f : Int)) t.nodes fun y hy => by
    rcases h.kind y hy with ⟨e, _⟩ | ⟨h1, h2, _⟩
    · refine filter_one (i := 0) (b := -1) rfl (beq_iff_eq.2 e) fun j c hj hp => ?_
      cases j with
      | zero => rfl
      | succ j =>
        exfalso
        rw [List.getElem?_cons_succ, List.getElem?_map] at hj
        obtain ⟨z, hz, rfl⟩ := Option.map_eq_some_iff.1 hj
        rw [beq_iff_eq] at hp
        omega
    · obtain ⟨f, hf⟩ := Int.eq_ofNat_of_zero_le h1
      refine filter_one (i := f + 1) (b := (f : Int)) ?_ (beq_iff_eq.2 hf) fun j c hj hp => ?_
      · rw [List.getElem?_cons_succ, List.getElem?_map, List.getElem?_range (by omega)]; rfl
      · rw [beq_iff_eq] at hp
        cases j with
        | zero => simp at hj; omega
        | succ j =>
          rw [List.getElem?_cons_succ, List.getElem?_map] at hj
          obtain ⟨z, hz, e⟩ := Option.map_eq_some_iff.1 hj
          obtain ⟨hjl, e3⟩ := List.getElem?_eq_some_iff.1 hz
          rw [List.getElem_range] at e3
          omega
  rw [List.map_cons, List.sum_cons, List.map_map] at key
  rw [← key, Nat.add_comm]
  congr 1
  unfold cntN
  congr 1
  refine List.map_congr_left fun f _ => ?_
  rw [picks_count]
  refine List.countP_congr fun x _ => ?_
  rw [namesF_iff]
  simp
/-- The names of a file rise, and each is found, at a node of that file. -/
theorem names_rise {t : TV} (h : Good t) (f : Int) : (picks (namesF f) t.nodes).Pairwise fun a b => a.data.toList < b.data.toList := by
  unfold picks
  rw [List.pairwise_map]
  exact h.rises.filter _
theorem names_at {t : TV} (h : Good t) {f : Int} {p : ByteArray} (hp : p ∈ picks (namesF f) t.nodes) : ∃ (k : Nat) (x : Node), findI t.nodes p = k ∧ t.nodes[k]? = some x ∧ x.file = f := by
  obtain ⟨x, hx, rfl⟩ := List.mem_map.1 hp
  obtain ⟨hx1, hx2⟩ := List.mem_filter.1 hx
  obtain ⟨k, hk⟩ := List.getElem?_of_mem hx1
  exact ⟨k, x, find_here h.rises hk, hk, ((namesF_iff f x).1 hx2).1⟩
theorem names_some {t : TV} (h : Good t) {f : Int} (h0 : 0 ≤ f) (h1 : f < t.fn) : 0 < (picks (namesF f) t.nodes).length := by
  obtain ⟨x, hx, e⟩ := h.hit f h0 h1
  rw [picks_count]
  exact List.countP_pos_iff.2 ⟨x, hx, (namesF_iff f x).2 ⟨e, h0⟩⟩
end Go.Proofs.Ytanaccoelifcpaa
