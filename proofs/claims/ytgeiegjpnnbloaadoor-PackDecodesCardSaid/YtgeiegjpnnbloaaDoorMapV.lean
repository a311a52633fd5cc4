/- Maps of any kind that the call owns, as lists of entries: a key and the value as it lies in memory. -/
import Derived.Test.YtgeiegjpnnbloaaDoorKit
import Derived.Maps.OwnOps
import Derived.Maps.Views
import Derived.Maps.OwnSet
import Derived.Maps.RangeWalk
import Derived.Carry
namespace Go.Proofs.YtgeiegjpnnbloaaDoor
open Go.RowKit Go.WideMaps Go.Maps

/-- A value read as itself. -/
def anyE (v : Value) : Option (DataW Value × List MemPlace) := some (.held v, [])
/-- How keys of type k stand in a map. -/
structure KT (α : Type) (k : TypeId) where
  lit : α → Lit
  val : α → Value
  ok : α → Prop
  keyed : Keyed Tryd.prog k
  inj : ∀ a b, lit a = lit b → a = b
  isKey : ∀ a, WideAt.IsKeyLit (lit a)
  key : ∀ a, ok a → keyOf Tryd.prog k (val a) = some (lit a)
  inv : ∀ v l, keyOf Tryd.prog k v = some l → ∃ a, v = val a ∧ l = lit a ∧ ok a
def strK : KT ByteArray 9 where
  lit s := .string s.data.toList
  val s := .string s
  ok s := s.size ≤ maxLen
  keyed := string_keyed Tryd.underlying9
  inj a b h := by
    injection h with h
    have : a.data = b.data := by simpa using h
    cases a; cases b; simp_all
  isKey _ := trivial
  key s h := keyOf_string_mk Tryd.underlying9 h
  inv v l h := by
    rw [keyOf_string Tryd.underlying9] at h
    cases v <;> simp [mapKey, Tryd.underlying9] at h
    exact ⟨_, rfl, h.2.symm, h.1⟩
def intK : KT Int 3 where
  lit n := .int .i64 n
  val n := .int .i64 n
  ok n := (Lit.int .i64 n).wf = true
  keyed := int_keyed Tryd.underlying3
  inj a b h := by injection h
  isKey _ := trivial
  key n h := keyOf_int_mk Tryd.underlying3 h
  inv v l h := by
    obtain ⟨x, rfl, rfl, hw⟩ := keyOf_int_inv Tryd.underlying3 h
    exact ⟨x, rfl, rfl, hw⟩

section
variable {α : Type}
def keysV (es : List (α × Value)) : List α := es.map (·.1)
theorem key_mem {es : List (α × Value)} {a : α} {v : Value} (h : (a, v) ∈ es) : a ∈ keysV es := List.mem_map.2 ⟨_, h, rfl⟩
variable [DecidableEq α]
def getV (es : List (α × Value)) (a : α) : Option Value := (es.find? fun x => decide (x.1 = a)).map (·.2)
def putV (es : List (α × Value)) (a : α) (v : Value) : List (α × Value) := if a ∈ keysV es then es.map (fun x => if x.1 = a then (a, v) else x) else es ++ [(a, v)]
def delV (es : List (α × Value)) (a : α) : List (α × Value) := es.filter fun x => !decide (x.1 = a)
theorem getV_none {es : List (α × Value)} {a : α} : getV es a = none ↔ a ∉ keysV es := by
  simp only [getV, keysV, Option.map_eq_none_iff, List.find?_eq_none, decide_eq_true_eq, List.mem_map, not_exists, not_and]
theorem getV_some {es : List (α × Value)} {a : α} {v : Value} (h : getV es a = some v) : (a, v) ∈ es := by
  unfold getV at h
  cases hf : es.find? (fun x => decide (x.1 = a)) with
  | none => rw [hf] at h; cases h
  | some p =>
    rw [hf] at h
    have h1 := List.mem_of_find?_eq_some hf
    have h2 := List.find?_some hf
    simp at h2 h
    obtain ⟨p1, p2⟩ := p
    simp at h2 h
    rw [← h2, ← h]
    exact h1
omit [DecidableEq α] in
theorem nodup_val : ∀ {es : List (α × Value)}, (keysV es).Nodup → ∀ {a : α} {v u : Value}, (a, v) ∈ es → (a, u) ∈ es → v = u
  | [], _, _, _, _, h, _ => by cases h
  | (b, x) :: t, hn, a, v, u, h1, h2 => by
    simp only [keysV, List.map_cons, List.nodup_cons] at hn
    rcases List.mem_cons.1 h1 with e1 | e1 <;> rcases List.mem_cons.1 h2 with e2 | e2
    · cases e1; cases e2; rfl
    · cases e1; exact absurd (key_mem e2) hn.1
    · cases e2; exact absurd (key_mem e1) hn.1
    · exact nodup_val hn.2 e1 e2
theorem getV_mem {es : List (α × Value)} (hn : (keysV es).Nodup) {a : α} {v : Value} (h : (a, v) ∈ es) : getV es a = some v := by
  cases hg : getV es a with
  | none => exact absurd (key_mem h) (getV_none.1 hg)
  | some u => rw [nodup_val hn (getV_some hg) h]
theorem putV_keys (es : List (α × Value)) (a : α) (v : Value) : keysV (putV es a v) = if a ∈ keysV es then keysV es else keysV es ++ [a] := by
  unfold putV
  split
  · simp only [keysV, List.map_map]
    refine List.map_congr_left fun x _ => ?_
    simp only [Function.comp]
    split
    · rename_i h; exact h.symm
    · rfl
  · simp [keysV]
theorem putV_nodup {es : List (α × Value)} (hn : (keysV es).Nodup) (a : α) (v : Value) : (keysV (putV es a v)).Nodup := by
  rw [putV_keys]
  split
  · exact hn
  · rename_i h
    rw [List.nodup_append]
    exact ⟨hn, by simp, fun x hx y hy e => by rw [List.mem_singleton.1 hy] at e; exact h (e ▸ hx)⟩
theorem putV_mem (es : List (α × Value)) (a : α) (v : Value) : (a, v) ∈ putV es a v := by
  unfold putV
  split
  · rename_i h
    obtain ⟨x, hx, e⟩ := List.mem_map.1 h
    exact List.mem_map.2 ⟨x, hx, by rw [if_pos e]⟩
  · simp
theorem putV_other {es : List (α × Value)} {a b : α} {v u : Value} (hne : b ≠ a) : (b, u) ∈ putV es a v ↔ (b, u) ∈ es := by
  unfold putV
  split
  · constructor
    · intro h
      obtain ⟨x, hx, e⟩ := List.mem_map.1 h
      split at e
      · cases e; exact absurd rfl hne
      · exact e ▸ hx
    · intro h
      exact List.mem_map.2 ⟨_, h, by rw [if_neg hne]⟩
  · simp [hne]
theorem putV_get {es : List (α × Value)} (hn : (keysV es).Nodup) (a b : α) (v : Value) : getV (putV es a v) b = if b = a then some v else getV es b := by
  have hn' := putV_nodup hn a v
  split
  · rename_i h; subst h; exact getV_mem hn' (putV_mem _ _ _)
  · rename_i h
    cases hg : getV es b with
    | some u => exact getV_mem hn' ((putV_other h).2 (getV_some hg))
    | none =>
      rw [getV_none] at hg ⊢
      intro hm
      obtain ⟨⟨b', u⟩, hx, e⟩ := List.mem_map.1 hm
      simp only at e
      subst e
      exact hg (key_mem ((putV_other h).1 hx))
theorem delV_keys (es : List (α × Value)) (a : α) : keysV (delV es a) = (keysV es).filter fun x => !decide (x = a) := by
  simp [keysV, delV, List.filter_map, Function.comp_def]
theorem delV_nodup {es : List (α × Value)} (hn : (keysV es).Nodup) (a : α) : (keysV (delV es a)).Nodup := by rw [delV_keys]; exact hn.filter _
theorem delV_get {es : List (α × Value)} (hn : (keysV es).Nodup) (a b : α) : getV (delV es a) b = if b = a then none else getV es b := by
  split
  · rename_i h; subst h; rw [getV_none, delV_keys]; simp
  · rename_i h
    cases hg : getV es b with
    | some u => exact getV_mem (delV_nodup hn a) (List.mem_filter.2 ⟨getV_some hg, by simp [h]⟩)
    | none =>
      rw [getV_none] at hg ⊢
      rw [delV_keys]
      exact fun hm => hg ((List.mem_filter.1 hm).1)
theorem len_of_same : ∀ {l m : List α}, l.Nodup → m.Nodup → (∀ x, x ∈ l ↔ x ∈ m) → l.length = m.length := by
  intro l m hl hm h
  refine (List.perm_iff_count.2 fun a => ?_).length_eq
  rw [hl.count, hm.count]
  simp [h a]

/-- Block b is a map with these entries, in no order. -/
def MapV {k : TypeId} (T : KT α k) (w : World) (b : Nat) (es : List (α × Value)) : Prop :=
  (keysV es).Nodup ∧ ∃ D : DataW Value, w.ownsMap Tryd.prog k anyE b es.length D ∧ (∀ a, has D (T.lit a) = decide (a ∈ keysV es)) ∧ (∀ l, has D l = true → ∃ a, l = T.lit a ∧ T.ok a) ∧ ∀ a v, (a, v) ∈ es → ∀ z, D.atKey (T.lit a) z = .held v
variable {k : TypeId} {T : KT α k} {w : World} {b : Nat} {es : List (α × Value)}
theorem MapV.new (w : World) : MapV T (w.alloc (.map #[] 0)) w.heap.size [] := ⟨by simp [keysV], .map [], World.ownsMap_made _ _ _ _, fun a => by simp [has, keysV], fun l h => by simp [has] at h, fun a v h => by simp at h⟩
theorem MapV.kept {w' : World} {row : Option Nat} (h : MapV T w b es) (hg : w.grownBy w' row) (hne : some b ≠ row) : MapV T w' b es := by
  obtain ⟨h0, D, h1, h2⟩ := h
  exact ⟨h0, D, h1.kept hg hne, h2⟩
theorem MapV.keep {w' : World} (h : MapV T w b es) (hk : w'.heap[b]? = w.heap[b]?) : MapV T w' b es := by
  obtain ⟨h0, D, ⟨ms, clock, hb, F, hs, hD⟩, h2⟩ := h
  exact ⟨h0, D, ⟨ms, clock, hk.trans hb, F, hs, hD⟩, h2⟩
theorem MapV.lt (h : MapV T w b es) : b < w.heap.size := by obtain ⟨_, D, h1, _⟩ := h; exact h1.lt
theorem MapV.isMap (h : MapV T w b es) : ∃ ms clock, w.heap[b]? = some (.map ms clock) := by
  obtain ⟨_, D, ⟨ms, clock, hb, _⟩, _⟩ := h
  exact ⟨ms, clock, hb⟩
theorem MapV.okey (h : MapV T w b es) {a : α} (ha : a ∈ keysV es) : T.ok a := by
  obtain ⟨_, D, _, h2, h3, _⟩ := h
  obtain ⟨a', e, ho⟩ := h3 (T.lit a) (by rw [h2]; simpa using ha)
  rw [T.inj _ _ e]
  exact ho
theorem MapV.perm {fs : List (α × Value)} (h : MapV T w b es) (hp : es.Perm fs) : MapV T w b fs := by
  obtain ⟨h0, D, h1, h2, h3, h4⟩ := h
  have hk : (keysV es).Perm (keysV fs) := hp.map _
  exact ⟨hk.nodup_iff.1 h0, D, by rw [← hp.length_eq]; exact h1, fun a => by rw [h2]; simp [hk.mem_iff], h3, fun a v hm => h4 a v (hp.mem_iff.2 hm)⟩
theorem MapV.at_ (h : MapV T w b es) : ∃ D : DataW Value, w.ownsMap Tryd.prog k anyE b es.length D ∧ (∀ a, has D (T.lit a) = (getV es a).isSome) ∧ ∀ a z, D.atKey (T.lit a) (.held z) = .held ((getV es a).getD z) := by
  obtain ⟨h0, D, h1, h2, h3, h4⟩ := h
  refine ⟨D, h1, fun a => ?_, fun a z => ?_⟩
  · rw [h2]
    cases hg : getV es a with
    | none => simp [getV_none.1 hg]
    | some v => simp [key_mem (getV_some hg)]
  · cases hg : getV es a with
    | none => exact atKey_of_not_has (by rw [h2]; simp [getV_none.1 hg]) _
    | some v => exact h4 a v (getV_some hg) _
/-- What the map type's table says. -/
structure MT (t k e : TypeId) (z : Value) : Prop where
  ht : Tryd.prog.underlying t = some (.map k e)
  hz : ∀ w, (zeroValue e).run Tryd.prog w = .ok z w
theorem MapV.look {t e : TypeId} {z : Value} (h : MapV T w b es) (M : MT t k e z) {a : α} (ha : T.ok a) : (Instr.lookup t (.map (some b)) (T.val a) false).run Tryd.prog w = .ok ((getV es a).getD z) w := by
  obtain ⟨D, h1, h2, h3⟩ := h.at_
  obtain ⟨v, ps, hrun, hv⟩ := h1.lookup T.keyed M.ht (M.hz w) (zd := .held z) (zp := []) rfl (T.key a ha)
  rw [h3] at hv
  simp only [anyE, Option.some.injEq, Prod.mk.injEq, DataW.held.injEq] at hv
  rw [hrun, hv.1]
theorem MapV.look_ok {t e : TypeId} {z : Value} (h : MapV T w b es) (M : MT t k e z) {a : α} (ha : T.ok a) : (Instr.lookup t (.map (some b)) (T.val a) true).run Tryd.prog w = .ok (.tuple #[(getV es a).getD z, .bool (getV es a).isSome]) w := by
  obtain ⟨D, h1, h2, h3⟩ := h.at_
  obtain ⟨v, ps, hrun, hv⟩ := h1.look_ok T.keyed M.ht (M.hz w) (zd := .held z) (zp := []) rfl (T.key a ha)
  rw [h3] at hv
  simp only [anyE, Option.some.injEq, Prod.mk.injEq, DataW.held.injEq] at hv
  rw [hrun, hv.1, h2]
theorem size_keys {D : DataW Value} {n : Nat} (h : w.ownsMap Tryd.prog k anyE b n D) (h2 : ∀ a, has D (T.lit a) = decide (a ∈ keysV es)) (h3 : ∀ l, has D l = true → ∃ a, l = T.lit a ∧ T.ok a) (hn : (keysV es).Nodup) : Maps.size D = es.length := by
  obtain ⟨ds, rfl, hp, hk⟩ := h.entries T.keyed
  have hn1 : (ds.map (·.1)).Nodup := by rw [List.Nodup, List.pairwise_map]; exact hp
  have hm : ∀ l, l ∈ ds.map (·.1) ↔ ∃ a, a ∈ keysV es ∧ T.lit a = l := by
    intro l
    constructor
    · intro hl
      obtain ⟨p, hp1, rfl⟩ := List.mem_map.1 hl
      have hh : has (.map ds) p.1 = true := List.any_eq_true.2 ⟨p, hp1, WideAt.sameKey_self (hk p hp1)⟩
      obtain ⟨a, e, _⟩ := h3 _ hh
      refine ⟨a, ?_, e.symm⟩
      have := h2 a
      rw [← e, hh] at this
      simpa using this.symm
    · rintro ⟨a, ha, rfl⟩
      have := h2 a
      rw [decide_eq_true ha] at this
      obtain ⟨p, hp1, e⟩ := List.any_eq_true.1 this
      exact List.mem_map.2 ⟨p, hp1, WideAt.sameKey_eq e⟩
  have hn2 : ((keysV es).map T.lit).Nodup := by
    rw [List.Nodup, List.pairwise_map]
    exact hn.imp fun {a b} hne e => hne (T.inj _ _ e)
  have : (ds.map (·.1)).Perm ((keysV es).map T.lit) := by
    classical
    refine List.perm_iff_count.2 fun l => ?_
    rw [hn1.count, hn2.count]
    simp only [hm, List.mem_map]
  have := this.length_eq
  simpa [Maps.size, keysV] using this
theorem own_fit {D : DataW Value} {n : Nat} (h : w.ownsMap Tryd.prog k anyE b n D) : w.ownsMap Tryd.prog k anyE b (Maps.size D) D := by
  obtain ⟨ms, clock, hb, F, hs, rfl⟩ := h
  exact ⟨ms, clock, hb, F, by simp [Maps.size, length_sorted], rfl⟩
theorem MapV.len {t e : TypeId} {z : Value} (h : MapV T w b es) (M : MT t k e z) (ty : TypeId) : (Builtin.len_ #[t] ty #[.map (some b)]).run Tryd.prog w = .ok (.int .i64 es.length) w := by
  obtain ⟨h0, D, h1, h2, h3, h4⟩ := h
  rw [h1.len M.ht ty, size_keys h1 h2 h3 h0]
theorem MapV.put {t e : TypeId} {z : Value} (h : MapV T w b es) (M : MT t k e z) {a : α} (ha : T.ok a) (v : Value) (hl : es.length < maxLen) :
    ∃ w', (Instr.mapUpdate t (.map (some b)) (T.val a) v).run Tryd.prog w = .ok () w' ∧ MapV T w' b (putV es a v) ∧ w.grownBy w' (some b) ∧ w'.heap.size = w.heap.size := by
  obtain ⟨h0, D, h1, h2, h3, h4⟩ := h
  obtain ⟨w', hrun, ho, hg⟩ := h1.store T.keyed M.ht hl (T.key a ha) (d := .held v) (ps := []) rfl
  have i0 := h1.isMap
  have n0 := putV_nodup h0 a v
  have q2 : ∀ b, has (D.put (T.lit a) (.held v)) (T.lit b) = decide (b ∈ keysV (putV es a v)) := by
    intro b
    rw [putV_keys]
    by_cases e : b = a
    · rw [e, has_put_same i0 (T.isKey a)]
      split <;> simp_all
    · rw [has_put_other (fun h => e (T.inj _ _ h)), h2]
      split <;> simp [e]
  have q3 : ∀ l, has (D.put (T.lit a) (.held v)) l = true → ∃ a, l = T.lit a ∧ T.ok a := by
    intro l hl
    by_cases e : l = T.lit a
    · exact ⟨a, e, ha⟩
    · rw [has_put_other e] at hl
      exact h3 l hl
  refine ⟨w', hrun, ⟨n0, _, ?_, q2, q3, fun b u hm zz => ?_⟩, hg.grown, ?_⟩
  · rw [← size_keys ho q2 q3 n0]
    exact own_fit ho
  · by_cases e : b = a
    · subst e
      rw [atKey_put_same i0 (T.isKey b), nodup_val n0 hm (putV_mem es b v)]
    · rw [atKey_put_other (fun h => e (T.inj _ _ h))]
      exact h4 b u ((putV_other e).1 hm) zz
  · obtain ⟨_, _, _, _, _, rfl⟩ := hg
    simp [ChangeMaps.setBlock]
theorem MapV.del {t e : TypeId} {z : Value} (h : MapV T w b es) (M : MT t k e z) {a : α} (ha : T.ok a) (ty : TypeId) :
    ∃ w', (Builtin.delete_ #[t, k] ty #[.map (some b), T.val a]).run Tryd.prog w = .ok (.tuple #[]) w' ∧ MapV T w' b (delV es a) ∧ w.grownBy w' (some b) ∧ w'.heap.size = w.heap.size := by
  obtain ⟨h0, D, h1, h2, h3, h4⟩ := h
  obtain ⟨w', hrun, ho, hg⟩ := h1.drop T.keyed M.ht (T.key a ha) ty
  have n0 := delV_nodup h0 a
  have q2 : ∀ b, has (D.del (T.lit a)) (T.lit b) = decide (b ∈ keysV (delV es a)) := by
    intro b
    rw [delV_keys]
    by_cases e : b = a
    · rw [e, has_del_same]; simp
    · rw [has_del_other (fun h => e (T.inj _ _ h)), h2]; simp [e]
  have q3 : ∀ l, has (D.del (T.lit a)) l = true → ∃ a, l = T.lit a ∧ T.ok a := by
    intro l hl
    by_cases e : l = T.lit a
    · rw [e, has_del_same] at hl; cases hl
    · rw [has_del_other e] at hl
      exact h3 l hl
  refine ⟨w', hrun, ⟨n0, _, ?_, q2, q3, fun b u hm zz => ?_⟩, hg.grown, ?_⟩
  · rw [← size_keys ho q2 q3 n0]
    exact own_fit ho
  · have hm' := List.mem_filter.1 hm
    have e : b ≠ a := by simpa using hm'.2
    rw [atKey_del_other (fun h => e (T.inj _ _ h))]
    exact h4 b u hm'.1 zz
  · obtain ⟨_, _, _, _, _, rfl⟩ := hg
    simp [ChangeMaps.setBlock]
/-- The map under a range: what is still to come. -/
def MapR {k : TypeId} (T : KT α k) (w : World) (b r : Nat) (es todo : List (α × Value)) (cnt : Nat) : Prop :=
  (keysV es).Nodup ∧ (keysV todo).Nodup ∧ (∀ x ∈ todo, x ∈ es) ∧ ∃ (D : DataW Value) (left : Lit → Bool), w.ranges Tryd.prog k anyE b r es.length D left cnt ∧ (∀ a, has D (T.lit a) = decide (a ∈ keysV es)) ∧ (∀ l, has D l = true → ∃ a, l = T.lit a ∧ T.ok a) ∧ (∀ a v, (a, v) ∈ es → ∀ z, D.atKey (T.lit a) z = .held v) ∧
    (∀ a, left (T.lit a) = decide (a ∈ keysV todo))
theorem MapR.kept {w' : World} {r cnt : Nat} {todo : List (α × Value)} {row : Option Nat} (h : MapR T w b r es todo cnt) (hg : w.grownBy w' row) (h1 : some b ≠ row) (h2 : some r ≠ row) : MapR T w' b r es todo cnt := by
  obtain ⟨a0, a1, a2, D, left, hr, h3⟩ := h
  exact ⟨a0, a1, a2, D, left, hr.kept hg h1 h2, h3⟩
theorem MapR.map {r cnt : Nat} {todo : List (α × Value)} (h : MapR T w b r es todo cnt) : MapV T w b es := by
  obtain ⟨a0, a1, a2, D, left, hr, q1, q2, q3, _⟩ := h
  exact ⟨a0, D, hr.owns, q1, q2, q3⟩
theorem MapR.left_eq {r cnt : Nat} {todo : List (α × Value)} (h : MapR T w b r es todo cnt) : w.rangeLeft b r = cnt := by
  obtain ⟨_, _, _, D, left, hr, _⟩ := h
  exact hr.left_eq
theorem MapR.lt {r cnt : Nat} {todo : List (α × Value)} (h : MapR T w b r es todo cnt) : r < w.heap.size := by
  obtain ⟨_, _, _, D, left, hr, _⟩ := h
  exact hr.lt
theorem MapR.ne {r cnt : Nat} {todo : List (α × Value)} (h : MapR T w b r es todo cnt) : r ≠ b := by
  obtain ⟨_, _, _, D, left, hr, _⟩ := h
  exact hr.ne
end

section
variable {α : Type} [DecidableEq α] {k : TypeId} {T : KT α k} {es : List (α × Value)} {ops : Array Oper} {rest : List Oper} {o : Oper} {a : Act} {Q : Exit → Act → World → Prop} {w : World}
theorem wpList_mv_look (hgd : o.guard = none) {t e : TypeId} {z : Value} (M : MT t k e z) (m x : Operand) (ho : o.op = .lookup t m x false) {b : Nat} (hm : a.eval m = .map (some b)) (h : MapV T w b es) {q : α} (hx : a.eval x = T.val q) (hq : T.ok q)
    {v : Value} (hv : (getV es q).getD z = v) (hK : wpList Tryd.prog ops Q rest (a.put o.dst v) w) : wpList Tryd.prog ops Q (o :: rest) a w := by
  subst hv
  refine wpList_plain hgd fun K hK' => ?_
  unfold Oper.wp execOp
  simp only [ho, hm, hx, Sem.run_bind, Sem.run_pure, Result.andThen_ok, h.look M hq]
  exact hK' _ _ hK
theorem wpList_mv_ok (hgd : o.guard = none) {t e : TypeId} {z : Value} (M : MT t k e z) (m x : Operand) (ho : o.op = .lookup t m x true) {b : Nat} (hm : a.eval m = .map (some b)) (h : MapV T w b es) {q : α} (hx : a.eval x = T.val q) (hq : T.ok q)
    {v : Value} {ok : Bool} (hv : (getV es q).getD z = v) (hok : (getV es q).isSome = ok) (hK : wpList Tryd.prog ops Q rest (a.put o.dst (.tuple #[v, .bool ok])) w) : wpList Tryd.prog ops Q (o :: rest) a w := by
  subst hv hok
  refine wpList_plain hgd fun K hK' => ?_
  unfold Oper.wp execOp
  simp only [ho, hm, hx, Sem.run_bind, Sem.run_pure, Result.andThen_ok, h.look_ok M hq]
  exact hK' _ _ hK
theorem exec_mv_look {t e : TypeId} {z v : Value} (M : MT t k e z) {m x : Operand} {b : Nat} {q : α} (ho : o.op = .lookup t m x false) (hm : a.eval m = .map (some b)) (hx : a.eval x = T.val q) (h : MapV T w b es) (hq : T.ok q) (hv : (getV es q).getD z = v) :
    (execOp a.eval o).run Tryd.prog w = .ok (.value v) w := by
  subst hv
  unfold execOp
  simp only [ho, hm, hx, Sem.run_bind, Sem.run_pure, Result.andThen_ok, h.look M hq]
theorem exec_mv_ok {t e : TypeId} {z v : Value} {ok : Bool} (M : MT t k e z) {m x : Operand} {b : Nat} {q : α} (ho : o.op = .lookup t m x true) (hm : a.eval m = .map (some b)) (hx : a.eval x = T.val q) (h : MapV T w b es) (hq : T.ok q) (hv : (getV es q).getD z = v) (hok : (getV es q).isSome = ok) :
    (execOp a.eval o).run Tryd.prog w = .ok (.value (.tuple #[v, .bool ok])) w := by
  subst hv hok
  unfold execOp
  simp only [ho, hm, hx, Sem.run_bind, Sem.run_pure, Result.andThen_ok, h.look_ok M hq]
theorem Blk.ne_map {g b : Nat} {t : TypeId} {cs : Array Value} (h : Blk w g t cs) (hm : MapV T w b es) : g ≠ b := by
  rintro rfl
  obtain ⟨ms, c, hb⟩ := hm.isMap
  unfold Blk at h
  rw [h] at hb
  cases hb
theorem wpList_mv_put (hgd : o.guard = none) {t e : TypeId} {z : Value} (M : MT t k e z) (m x y : Operand) (ho : o.op = .mapUpdate t m x y ∨ o.op = .insert t m x y) {b : Nat} (hm : a.eval m = .map (some b)) (h : MapV T w b es) {q : α} (hx : a.eval x = T.val q) (hq : T.ok q)
    {v : Value} (hy : a.eval y = v) (hl : es.length < maxLen) (hK : ∀ w', MapV T w' b (putV es q v) → w.grownBy w' (some b) → w'.heap.size = w.heap.size → wpList Tryd.prog ops Q rest (a.put o.dst undef) w') : wpList Tryd.prog ops Q (o :: rest) a w := by
  refine wpList_plain hgd fun K hK' => ?_
  obtain ⟨w', hrun, r1, r2, r3⟩ := h.put M hq v hl
  unfold Oper.wp execOp
  rcases ho with ho | ho <;>
  · simp only [ho, hm, hx, hy, Sem.run_bind, Sem.run_pure, Result.andThen_ok, hrun]
    exact hK' _ _ (hK w' r1 r2 r3)
theorem wpList_mv_del (hgd : o.guard = none) {t e : TypeId} {z : Value} (M : MT t k e z) (m x : Operand) (ho : o.op = Op.call { callee := Callee.builtin Builtin.delete, args := #[m, x], argTypes := #[t, k] }) {b : Nat} (hm : a.eval m = .map (some b)) (h : MapV T w b es) {q : α} (hx : a.eval x = T.val q) (hq : T.ok q)
    (hK : ∀ w', MapV T w' b (delV es q) → w.grownBy w' (some b) → w'.heap.size = w.heap.size → wpList Tryd.prog ops Q rest (a.put o.dst (.tuple #[])) w') : wpList Tryd.prog ops Q (o :: rest) a w := by
  refine wpList_plain hgd fun K hK' => ?_
  obtain ⟨w', hrun, r1, r2, r3⟩ := h.del M hq o.type
  unfold Oper.wp
  simp [execOp, ho, resolve, invoke, builtin, hm, hx, hrun, Result.andThen]
  exact hK' _ _ (hK w' r1 r2 r3)
theorem wpList_mv_len (hgd : o.guard = none) {t e : TypeId} {z : Value} (M : MT t k e z) (m : Operand) (ho : o.op = Op.call { callee := Callee.builtin Builtin.len, args := #[m], argTypes := #[t] }) {b : Nat} (hm : a.eval m = .map (some b)) (h : MapV T w b es)
    {n : Nat} (hn : es.length = n) (hK : wpList Tryd.prog ops Q rest (a.put o.dst (.int .i64 n)) w) : wpList Tryd.prog ops Q (o :: rest) a w := by
  subst hn
  refine wpList_plain hgd fun K hK' => ?_
  unfold Oper.wp
  simp [execOp, ho, resolve, invoke, builtin, hm, h.len M o.type, Result.andThen]
  exact hK' _ _ hK
theorem wpList_mr_range (hgd : o.guard = none) {t e : TypeId} {z : Value} (M : MT t k e z) (m : Operand) (ho : o.op = Op.range t m) {b : Nat} (hm : a.eval m = .map (some b)) (h : MapV T w b es)
    (hK : ∀ w', MapR T w' b w.heap.size es es es.length → w.grownBy w' none → w'.heap.size = w.heap.size + 1 → wpList Tryd.prog ops Q rest (a.put o.dst (.pointer (some ⟨w.heap.size, 0, none⟩))) w') : wpList Tryd.prog ops Q (o :: rest) a w := by
  obtain ⟨h0, D, h1, h2, h3, h4⟩ := h
  have hsz := size_keys h1 h2 h3 h0
  exact wpList_range_own w hgd m _ ho k e T.keyed M.ht _ b es.length D hm h1 fun w' hr hgr hs => hK w' ⟨h0, h0, fun _ hx => hx, D, _, by rw [hsz] at hr; exact hr, h2, h3, h4, h2⟩ hgr hs
theorem wpList_mr_next (hgd : o.guard = none) (it : Operand) (ho : o.op = Op.next it false) {b r cnt : Nat} {todo : List (α × Value)} (hit : a.eval it = .pointer (some ⟨r, 0, none⟩)) (h : MapR T w b r es todo cnt)
    (hDone : todo = [] → wpList Tryd.prog ops Q rest (a.put o.dst (.tuple #[.bool false])) w)
    (hMore : ∀ (q : α) (v : Value) (w' : World) (cnt' : Nat), (q, v) ∈ todo → T.ok q → MapR T w' b r es (delV todo q) cnt' → cnt' < cnt → w.grownBy w' (some r) → w'.heap.size = w.heap.size →
      (Instr.entry (.pointer (some ⟨r, 0, none⟩))).run Tryd.prog w' = .ok (.tuple #[T.val q, v]) w' → wpList Tryd.prog ops Q rest (a.put o.dst (.tuple #[.bool true, T.val q, v])) w') : wpList Tryd.prog ops Q (o :: rest) a w := by
  obtain ⟨a0, a1, a2, D, left, hr, h2, h3, h4, h5⟩ := h
  refine wpList_next_ranges w hgd it ho k T.keyed anyE T.val (fun v => v) (fun key kl hkey => by obtain ⟨x, rfl, _⟩ := T.inv _ _ hkey; exact ⟨x, rfl⟩) (fun v _ _ => ⟨v, rfl⟩) b r es.length D left cnt hit hr (fun _ hl => hDone ?_) ?_
  · cases htd : todo with
    | nil => rfl
    | cons p t =>
      have := h5 p.1
      rw [hl, htd] at this
      simp [keysV] at this
  · intro q' v kl y w' cnt' hkey hlk hv hat hrg hlt hgr hsz hen
    obtain ⟨q, eq, rfl, hok⟩ := T.inv _ _ hkey
    rw [eq] at hen ⊢
    have hq : q ∈ keysV todo := by rw [h5] at hlk; simpa using hlk
    obtain ⟨⟨q2, v2⟩, hm, e⟩ := List.mem_map.1 hq
    simp only at e
    subst e
    have hv2 := h4 _ _ (a2 _ hm) (.held undef)
    rw [hat] at hv2
    simp only [anyE, Option.some.injEq] at hv
    rw [← hv] at hv2
    injection hv2 with hv2
    subst hv2
    refine hMore q2 v w' cnt' hm hok ⟨a0, delV_nodup a1 _, fun x hx => a2 x ((List.mem_filter.1 hx).1), D, _, hrg, h2, h3, h4, fun c => ?_⟩ hlt hgr hsz hen
    rw [delV_keys]
    by_cases e : c = q2
    · subst e
      rw [WideAt.sameKey_self (T.isKey c)]
      simp
    · rw [sameKey_ne (fun h => e (T.inj _ _ h)), h5]
      simp [e]
end
end Go.Proofs.YtgeiegjpnnbloaaDoor
