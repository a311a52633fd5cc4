/- A loose tree in plain words, both ways; a tree is told by what is at each path and which paths name one file. -/
import Derived.Test.YtanaccoelifcpaaGood
import Derived.Test.YtanaccoelifcpaaTreeD
namespace Go.Proofs.Ytanaccoelifcpaa
open Go.RowKit

/-- Files are numbered by their first names. -/
def numRun : List Node → Int → Option Int
  | [], n => some n
  | x :: r, n => if x.file = -1 then numRun r n else if x.file < 0 ∨ n < x.file then none else numRun r (if x.file = n then n + 1 else n)
theorem num_of_form (l : List Node) (fn : Int) : ∀ (rest : List Node) (prev : Option ByteArray) (next r : Int), formRun l fn rest prev next = some r → numRun rest next = some r
  | [], _, _, _, h => h
  | x :: t, prev, next, r, h => by
    rw [formRun] at h
    split at h
    · cases h
    · split at h
      · cases h
      · rw [numRun]
        split at h
        · rename_i h3
          split at h
          · rw [if_pos h3]; exact num_of_form l fn t _ _ _ h
          · cases h
        · rename_i h3
          split at h
          · cases h
          · rename_i h4
            simp only [fileBad, Bool.not_eq_true, Bool.or_eq_false_iff, bne_eq_false_iff_eq, decide_eq_false_iff_not] at h4
            rw [if_neg h3, if_neg (by omega)]
            exact num_of_form l fn t _ _ _ h
theorem num_le : ∀ (rest : List Node) (next r : Int), numRun rest next = some r → next ≤ r
  | [], _, _, h => by rw [numRun] at h; injection h with h; omega
  | x :: t, next, r, h => by
    rw [numRun] at h
    split at h
    · exact num_le t _ _ h
    · split at h
      · cases h
      · have := num_le t _ _ h
        split at this <;> omega
theorem form_of_num (l : List Node) (fn : Int) : ∀ (rest : List Node) (prev : Option ByteArray) (next r : Int), numRun rest next = some r → r ≤ fn →
    (∀ x ∈ rest, validL (pathL x) = true ∧ upBad l x = false ∧ ((x.file = -1 ∧ okMode x.mode = true) ∨ (0 ≤ x.file ∧ x.mode = 0))) → Rises rest → (∀ q, prev = some q → ∀ y ∈ rest, q.data.toList < pathL y) → formRun l fn rest prev next = some r
  | [], _, _, _, h, _, _, _, _ => h
  | x :: t, prev, next, r, h, hr, hx, hR, hp => by
    have ⟨h1, h2, h3⟩ := hx x (by simp)
    have ⟨r1, r2⟩ := List.pairwise_cons.1 hR
    have hprev : prevBad prev x.path = false := by
      cases prev with
      | none => rfl
      | some q =>
        have := hp q rfl x (by simp)
        simp only [prevBad, Bool.not_eq_false']
        rw [less_lt]
        exact decide_eq_true this
    have ih : ∀ n, numRun t n = some r → formRun l fn t (some x.path) n = some r := fun n hn =>
      form_of_num l fn t (some x.path) n r hn hr (fun y hy => hx y (List.mem_cons_of_mem _ hy)) r2 (fun q e y hy => by injection e with e; subst e; exact r1 y hy)
    rw [numRun] at h
    rw [formRun, if_neg (by rw [show validL x.path.data.toList = true from h1, hprev]; simp), if_neg (by rw [h2]; simp)]
    rcases h3 with ⟨e, hm⟩ | ⟨e, hm⟩
    · rw [if_pos e] at h ⊢
      rw [if_pos hm]
      exact ih _ h
    · rw [if_neg (by omega)] at h ⊢
      split at h
      · cases h
      · rename_i h4
        have hle := num_le t _ _ h
        have hlt : x.file < fn := by split at hle <;> omega
        rw [if_neg (by simp [fileBad, hm]; omega)]
        exact ih _ h
/-- What a loose tree is. -/
structure LooseP (t : TV) : Prop where
  good : Good t
  num : numRun t.nodes 0 = some (t.fn : Int)
theorem looseP_of {t : TV} (h : looseE t = 0) : LooseP t := by
  refine ⟨good_of_loose h, ?_⟩
  rw [looseE_form] at h
  split at h
  · cases h
  · split at h
    · rename_i hf
      unfold formB at hf
      split at hf
      · rename_i r hr
        rw [Bool.and_eq_true, decide_eq_true_eq] at hf
        rw [← hf.2]
        exact num_of_form _ _ _ _ _ _ hr
      · cases hf
    · cases h
theorem loose_of_P {t : TV} (h : LooseP t) : looseE t = 0 := by
  have g := h.good
  have hb : boundB t = false := by
    have h1 := g.nn
    have h2 := g.fn
    simp only [boundB, Bool.or_eq_false_iff, decide_eq_false_iff_not, anyLong, List.any_eq_false]
    exact ⟨⟨by omega, by omega⟩, fun x hx => by have := g.small x hx; simp; omega⟩
  rw [looseE_form, if_neg (by rw [hb]; simp)]
  have hf := form_of_num t.nodes t.fn t.nodes none 0 t.fn h.num (Int.le_refl _) (fun x hx => ⟨g.valid x hx, (upBad_iff g.rises x).2 (g.dir x hx), (g.kind x hx).imp id (fun h => ⟨h.1, h.2.2⟩)⟩) g.rises (fun q e => by cases e)
  rw [if_pos]
  unfold formB
  rw [hf]
  simp only [Bool.and_eq_true, decide_true, and_true, List.all_eq_true]
  exact g.modes

/-- What is at a path. -/
inductive Kd where
  | dir (m : Int)
  | file (m : Int) (d : ByteArray)
def nodeAt (l : List Node) (p : ByteArray) : Option Node := l.find? fun x => decide (x.path = p)
def kdOf (F : Int → Int × ByteArray) (x : Node) : Kd := if x.file < 0 then .dir x.mode else .file (F x.file).1 (F x.file).2
def kindL (l : List Node) (F : Int → Int × ByteArray) (p : ByteArray) : Option Kd := (nodeAt l p).map (kdOf F)
def sameL (l : List Node) (p q : ByteArray) : Prop := ∃ x ∈ l, ∃ y ∈ l, x.path = p ∧ y.path = q ∧ 0 ≤ x.file ∧ x.file = y.file
/-- No path stands twice. -/
def Apart (l : List Node) : Prop := (l.map (·.path)).Nodup
theorem apart_of_rises {l : List Node} (h : Rises l) : Apart l := by
  rw [Apart, List.Nodup, List.pairwise_map]
  exact h.imp fun {a b} hlt e => by unfold pathL at hlt; rw [e] at hlt; exact lt_irr _ hlt
theorem apart_inj : ∀ {l : List Node}, Apart l → ∀ {x y : Node}, x ∈ l → y ∈ l → x.path = y.path → x = y
  | [], _, _, _, h, _, _ => by cases h
  | a :: t, hA, x, y, hx, hy, e => by
    simp only [Apart, List.map_cons, List.nodup_cons] at hA
    rcases List.mem_cons.1 hx with e1 | hx <;> rcases List.mem_cons.1 hy with e2 | hy
    · rw [e1, e2]
    · exact absurd (List.mem_map.2 ⟨y, hy, by rw [← e, e1]⟩) hA.1
    · exact absurd (List.mem_map.2 ⟨x, hx, by rw [e, e2]⟩) hA.1
    · exact apart_inj hA.2 hx hy e
theorem nodeAt_some {l : List Node} {p : ByteArray} {x : Node} (h : nodeAt l p = some x) : x ∈ l ∧ x.path = p :=
  ⟨List.mem_of_find?_eq_some h, by simpa using List.find?_some h⟩
theorem nodeAt_none {l : List Node} {p : ByteArray} : nodeAt l p = none ↔ ∀ x ∈ l, x.path ≠ p := by simp [nodeAt, List.find?_eq_none]
theorem nodeAt_mem {l : List Node} (hA : Apart l) {x : Node} (hx : x ∈ l) : nodeAt l x.path = some x := by
  cases h : nodeAt l x.path with
  | none => exact absurd rfl (nodeAt_none.1 h x hx)
  | some y =>
    obtain ⟨h1, h2⟩ := nodeAt_some h
    rw [apart_inj hA h1 hx h2]
theorem nodeAt_iff {l : List Node} (hA : Apart l) {p : ByteArray} {x : Node} : nodeAt l p = some x ↔ x ∈ l ∧ x.path = p :=
  ⟨nodeAt_some, fun ⟨h1, h2⟩ => h2 ▸ nodeAt_mem hA h1⟩
theorem sameL_iff {l : List Node} (hA : Apart l) {p q : ByteArray} : sameL l p q ↔ ∃ x y, nodeAt l p = some x ∧ nodeAt l q = some y ∧ 0 ≤ x.file ∧ x.file = y.file := by
  constructor
  · rintro ⟨x, hx, y, hy, e1, e2, h⟩
    exact ⟨x, y, (nodeAt_iff hA).2 ⟨hx, e1⟩, (nodeAt_iff hA).2 ⟨hy, e2⟩, h⟩
  · rintro ⟨x, y, h1, h2, h⟩
    obtain ⟨a1, a2⟩ := nodeAt_some h1
    obtain ⟨b1, b2⟩ := nodeAt_some h2
    exact ⟨x, a1, y, b1, a2, b2, h⟩
theorem nodeAt_perm {l m : List Node} (hA : Apart l) (hp : l.Perm m) (p : ByteArray) : nodeAt l p = nodeAt m p := by
  have hB : Apart m := (hp.map _).nodup_iff.1 hA
  cases h : nodeAt l p with
  | none => exact (nodeAt_none.2 fun x hx => nodeAt_none.1 h x (hp.mem_iff.2 hx)).symm
  | some x =>
    obtain ⟨h1, h2⟩ := nodeAt_some h
    exact ((nodeAt_iff hB).2 ⟨hp.mem_iff.1 h1, h2⟩).symm
/-- Rising lists with the same members are one. -/
theorem rising_ext : ∀ {l m : List ByteArray}, l.Pairwise (fun a b => a.data.toList < b.data.toList) → m.Pairwise (fun a b => a.data.toList < b.data.toList) → (∀ p, p ∈ l ↔ p ∈ m) → l = m
  | [], [], _, _, _ => rfl
  | [], b :: m, _, _, h => by have := (h b).2 (by simp); cases this
  | a :: l, [], _, _, h => by have := (h a).1 (by simp); cases this
  | a :: l, b :: m, h1, h2, h => by
    have ⟨p1, p2⟩ := List.pairwise_cons.1 h1
    have ⟨q1, q2⟩ := List.pairwise_cons.1 h2
    have hab : a = b := by
      rcases List.mem_cons.1 ((h a).1 (by simp)) with e | e
      · exact e
      · rcases List.mem_cons.1 ((h b).2 (by simp)) with e' | e'
        · exact e'.symm
        · exact absurd (lt_tr (q1 a e) (p1 b e')) (lt_irr _)
    subst hab
    refine congrArg _ (rising_ext p2 q2 fun p => ?_)
    constructor
    · intro hp
      rcases List.mem_cons.1 ((h p).1 (List.mem_cons_of_mem _ hp)) with e | e
      · subst e; exact absurd (p1 p hp) (lt_irr _)
      · exact e
    · intro hp
      rcases List.mem_cons.1 ((h p).2 (List.mem_cons_of_mem _ hp)) with e | e
      · subst e; exact absurd (q1 p hp) (lt_irr _)
      · exact e
theorem num_hit : ∀ (rest : List Node) (next r : Int), numRun rest next = some r → 0 ≤ next → ∀ f, next ≤ f → f < r → ∃ x ∈ rest, x.file = f
  | [], next, r, h, _, f, h1, h2 => by rw [numRun] at h; injection h with h; omega
  | x :: t, next, r, h, h0, f, h1, h2 => by
    rw [numRun] at h
    split at h
    · obtain ⟨y, hy, e⟩ := num_hit t _ _ h h0 f h1 h2
      exact ⟨y, List.mem_cons_of_mem _ hy, e⟩
    · split at h
      · cases h
      · by_cases e : x.file = f
        · exact ⟨x, by simp, e⟩
        · obtain ⟨y, hy, e⟩ := num_hit t _ _ h (by split <;> omega) f (by split <;> omega) h2
          exact ⟨y, List.mem_cons_of_mem _ hy, e⟩
/-- The nodes' own form: a directory has no file, a file's name no mode. -/
def Plain (l : List Node) : Prop := ∀ x ∈ l, x.file = -1 ∨ (0 ≤ x.file ∧ x.mode = 0)
theorem uniq_go {l l' : List Node} {F F' : Int → Int × ByteArray} {r r' : Int} (hA : Apart l) (hA' : Apart l') (hP : Plain l) (hP' : Plain l') (hk : ∀ p, kindL l F p = kindL l' F' p) (hs : ∀ p q, sameL l p q ↔ sameL l' p q) :
    ∀ (rest rest' pre : List Node) (n : Int), l = pre ++ rest → l' = pre ++ rest' → rest.map (·.path) = rest'.map (·.path) → numRun rest n = some r → numRun rest' n = some r' → (∀ i, 0 ≤ i → i < n → ∃ y ∈ pre, y.file = i) → 0 ≤ n → rest = rest' ∧ r = r'
  | [], [], pre, n, _, _, _, h1, h2, _, _ => by rw [numRun] at h1 h2; injection h1 with h1; injection h2 with h2; exact ⟨rfl, by omega⟩
  | [], _ :: _, _, _, _, _, h, _, _, _, _ => by cases h
  | _ :: _, [], _, _, _, _, h, _, _, _, _ => by cases h
  | x :: t, x' :: t', pre, n, e1, e2, hm, h1, h2, hh, h0 => by
    simp only [List.map_cons, List.cons.injEq] at hm
    obtain ⟨hxp, hm⟩ := hm
    have mx : x ∈ l := by rw [e1]; simp
    have mx' : x' ∈ l' := by rw [e2]; simp
    have k1 := hk x.path
    rw [kindL, kindL, nodeAt_mem hA mx, hxp, nodeAt_mem hA' mx'] at k1
    simp only [Option.map_some, Option.some.injEq] at k1
    have fin : x = x' → x :: t = x' :: t' ∧ r = r' := by
      intro ex
      subst ex
      rw [numRun] at h1 h2
      have go : ∀ m, numRun t m = some r → numRun t' m = some r' → (∀ i, 0 ≤ i → i < m → ∃ y ∈ pre ++ [x], y.file = i) → 0 ≤ m → x :: t = x :: t' ∧ r = r' := by
        intro m g1 g2 g3 g4
        have := uniq_go hA hA' hP hP' hk hs t t' (pre ++ [x]) m (by rw [e1]; simp) (by rw [e2]; simp) hm g1 g2 g3 g4
        exact ⟨by rw [this.1], this.2⟩
      split at h1
      · rename_i hd
        rw [if_pos hd] at h2
        exact go n h1 h2 (fun i i1 i2 => by obtain ⟨y, hy, e⟩ := hh i i1 i2; exact ⟨y, by simp [hy], e⟩) h0
      · rename_i hd
        rw [if_neg hd] at h2
        split at h1
        · cases h1
        · rename_i hb
          rw [if_neg hb] at h2
          refine go _ h1 h2 (fun i i1 i2 => ?_) (by split <;> omega)
          by_cases hi : i < n
          · obtain ⟨y, hy, e⟩ := hh i i1 hi; exact ⟨y, by simp [hy], e⟩
          · exact ⟨x, by simp, by split at i2 <;> omega⟩
    refine fin ?_
    have eqn : ∀ {a b : Node}, a.path = b.path → a.file = b.file → a.mode = b.mode → a = b := by
      rintro ⟨_, _, _, _⟩ ⟨_, _, _, _⟩ h1 h2 h3
      simp only at h1 h2 h3
      subst h1 h2 h3
      rfl
    unfold kdOf at k1
    rcases hP x mx with hx | ⟨hx, hx0⟩ <;> rcases hP' x' mx' with hx' | ⟨hx', hx0'⟩
    · rw [if_pos (by omega), if_pos (by omega)] at k1
      injection k1 with k1
      exact eqn hxp (by rw [hx, hx']) k1
    · rw [if_pos (by omega), if_neg (by omega)] at k1
      cases k1
    · rw [if_neg (by omega), if_pos (by omega)] at k1
      cases k1
    · have b1 : x.file ≤ n := by
        rw [numRun, if_neg (by omega)] at h1
        split at h1
        · cases h1
        · omega
      have b2 : x'.file ≤ n := by
        rw [numRun, if_neg (by omega)] at h2
        split at h2
        · cases h2
        · omega
      refine eqn hxp ?_ (by rw [hx0, hx0'])
      have key : ∀ {m m' : List Node} {z z' : Node}, Apart m → Apart m' → (∀ p q, sameL m p q → sameL m' p q) → z ∈ m → z' ∈ m' → z.path = z'.path → (∀ y ∈ pre, y ∈ m ∧ y ∈ m') → 0 ≤ z.file → z.file < n → z'.file = z.file := by
        intro m m' z z' a1 a2 hss z1 z2 ze hpre z0 zn
        obtain ⟨y, hy, ey⟩ := hh z.file z0 zn
        obtain ⟨u, hu, v, hv, eu, ev, _, euv⟩ := hss z.path y.path ⟨z, z1, y, (hpre y hy).1, rfl, rfl, z0, ey.symm⟩
        have : u = z' := apart_inj a2 hu z2 (by rw [eu, ze])
        subst this
        have : v = y := apart_inj a2 hv (hpre y hy).2 ev
        subst this
        rw [euv, ey]
      have hpre : ∀ y ∈ pre, y ∈ l ∧ y ∈ l' := fun y hy => ⟨by rw [e1]; simp [hy], by rw [e2]; simp [hy]⟩
      by_cases c : x.file < n
      · exact (key hA hA' (fun p q => (hs p q).1) mx mx' hxp hpre hx c).symm
      · by_cases c' : x'.file < n
        · exact key hA' hA (fun p q => (hs p q).2) mx' mx hxp.symm (fun y hy => ⟨(hpre y hy).2, (hpre y hy).1⟩) hx' c'
        · omega
theorem uniq {l l' : List Node} {F F' : Int → Int × ByteArray} {r r' : Int} (hR : Rises l) (hR' : Rises l') (hP : Plain l) (hP' : Plain l') (h1 : numRun l 0 = some r) (h2 : numRun l' 0 = some r') (hk : ∀ p, kindL l F p = kindL l' F' p) (hs : ∀ p q, sameL l p q ↔ sameL l' p q) :
    l = l' ∧ r = r' ∧ ∀ i, 0 ≤ i → i < r → F i = F' i := by
  have hA := apart_of_rises hR
  have hA' := apart_of_rises hR'
  have hm : l.map (·.path) = l'.map (·.path) := by
    refine rising_ext (List.pairwise_map.2 hR) (List.pairwise_map.2 hR') fun p => ?_
    have : (nodeAt l p).isSome = (nodeAt l' p).isSome := by have := congrArg Option.isSome (hk p); simpa [kindL] using this
    have e : ∀ m : List Node, p ∈ m.map (·.path) ↔ (nodeAt m p).isSome = true := by
      intro m
      cases h : nodeAt m p with
      | none => simp; exact fun x hx => nodeAt_none.1 h x hx
      | some x => have := nodeAt_some h; simp; exact ⟨x, this⟩
    rw [e, e, this]
  obtain ⟨e, er⟩ := uniq_go hA hA' hP hP' hk hs l l' [] 0 rfl rfl hm h1 h2 (fun i i1 i2 => by omega) (Int.le_refl _)
  subst e
  refine ⟨rfl, er, fun i i1 i2 => ?_⟩
  obtain ⟨x, hx, ex⟩ := num_hit l 0 r h1 (Int.le_refl _) i i1 i2
  have k := hk x.path
  rw [kindL, kindL, nodeAt_mem hA hx] at k
  simp only [Option.map_some, Option.some.injEq] at k
  unfold kdOf at k
  rw [if_neg (by omega), if_neg (by omega), ex] at k
  injection k with k1 k2
  exact Prod.ext k1 k2
/-- A tree's files, by their numbers. -/
def treeF (t : TV) (ds : List ByteArray) (i : Int) : Int × ByteArray := (((t.files[i.toNat]?).map (·.mode)).getD 0, (ds[i.toNat]?).getD ByteArray.empty)
theorem exact_of_view {t u : TV} {ds es : List ByteArray} (ht : LooseP t) (hu : LooseP u) (lt : t.files.length = t.fn) (lu : u.files.length = u.fn) (ld : ds.length = t.files.length) (le : es.length = u.files.length)
    (hk : ∀ p, kindL t.nodes (treeF t ds) p = kindL u.nodes (treeF u es) p) (hs : ∀ p q, sameL t.nodes p q ↔ sameL u.nodes p q) : exactB t u ds es = true := by
  have pl : ∀ {t : TV}, Good t → Plain t.nodes := fun g x hx => (g.kind x hx).imp (·.1) (fun h => ⟨h.1, h.2.2⟩)
  obtain ⟨e1, e2, e3⟩ := uniq ht.good.rises hu.good.rises (pl ht.good) (pl hu.good) ht.num hu.num hk hs
  have e2' : t.fn = u.fn := by omega
  unfold exactB
  simp only [Bool.and_eq_true, decide_eq_true_eq]
  refine ⟨e1, List.ext_getElem? fun i => ?_, List.ext_getElem? fun i => ?_⟩
  · by_cases hi : i < t.fn
    · have := congrArg Prod.fst (e3 i (by omega) (by omega))
      simp only [treeF, Int.toNat_natCast] at this
      rw [List.getElem?_map, List.getElem?_map]
      rw [List.getElem?_eq_getElem (by omega), List.getElem?_eq_getElem (by omega)] at this ⊢
      simpa using this
    · rw [List.getElem?_eq_none (by simp; omega), List.getElem?_eq_none (by simp; omega)]
  · by_cases hi : i < t.fn
    · have := congrArg Prod.snd (e3 i (by omega) (by omega))
      simp only [treeF, Int.toNat_natCast] at this
      rw [List.getElem?_eq_getElem (by omega), List.getElem?_eq_getElem (by omega)] at this ⊢
      simpa using this
    · rw [List.getElem?_eq_none (by omega), List.getElem?_eq_none (by omega)]
end Go.Proofs.Ytanaccoelifcpaa
