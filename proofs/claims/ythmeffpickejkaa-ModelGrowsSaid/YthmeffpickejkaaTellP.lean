/- Files numbered anew by their first names; a world's nodes by rising paths. -/
import Derived.Test.YthmeffpickejkaaCmd
namespace Go.Proofs.Ythmeffpickejkaa
open Go.RowKit

def idStep (acc : List Int) (x : Node) : List Int := if x.file < 0 ∨ x.file ∈ acc then acc else acc ++ [x.file]
/-- The files of a list, by their first names. -/
def idsL (l : List Node) : List Int := l.foldl idStep []
/-- A node whose file has its new number. -/
def reN (ids : List Int) (x : Node) : Node := if x.file < 0 then x else ⟨x.path, (ids.idxOf x.file : Nat), x.mode, x.hp⟩
theorem idsL_snoc (l : List Node) (x : Node) : idsL (l ++ [x]) = idStep (idsL l) x := by simp [idsL]
theorem idStep_pre (acc : List Int) (x : Node) : ∃ r, idStep acc x = acc ++ r := by
  unfold idStep
  split
  · exact ⟨[], by simp⟩
  · exact ⟨_, rfl⟩
theorem fold_pre : ∀ (l : List Node) (acc : List Int), ∃ r, l.foldl idStep acc = acc ++ r
  | [], acc => ⟨[], by simp⟩
  | x :: t, acc => by
    obtain ⟨r, h⟩ := idStep_pre acc x
    obtain ⟨r', h'⟩ := fold_pre t (idStep acc x)
    exact ⟨r ++ r', by rw [List.foldl_cons, h', h, List.append_assoc]⟩
theorem idsL_pre (l m : List Node) : ∃ r, idsL (l ++ m) = idsL l ++ r := by
  obtain ⟨r, h⟩ := fold_pre m (idsL l)
  exact ⟨r, by rw [← h, idsL, idsL, List.foldl_append]⟩
theorem idStep_nodup {acc : List Int} (h : acc.Nodup) (x : Node) : (idStep acc x).Nodup := by
  unfold idStep
  split
  · exact h
  · rename_i hn
    rw [List.nodup_append]
    exact ⟨h, by simp, fun a ha b hb e => by rw [List.mem_singleton.1 hb] at e; exact hn (.inr (e ▸ ha))⟩
theorem fold_nodup : ∀ (l : List Node) (acc : List Int), acc.Nodup → (l.foldl idStep acc).Nodup
  | [], _, h => h
  | x :: t, acc, h => by rw [List.foldl_cons]; exact fold_nodup t _ (idStep_nodup h x)
theorem idsL_nodup (l : List Node) : (idsL l).Nodup := fold_nodup l [] List.nodup_nil
theorem fold_mem : ∀ (l : List Node) (acc : List Int) (i : Int), i ∈ l.foldl idStep acc ↔ i ∈ acc ∨ (0 ≤ i ∧ ∃ x ∈ l, x.file = i)
  | [], acc, i => by simp
  | x :: t, acc, i => by
    rw [List.foldl_cons, fold_mem t]
    unfold idStep
    split
    · rename_i h
      constructor
      · rintro (h1 | ⟨h1, y, hy, e⟩)
        · exact .inl h1
        · exact .inr ⟨h1, y, List.mem_cons_of_mem _ hy, e⟩
      · rintro (h1 | ⟨h1, y, hy, e⟩)
        · exact .inl h1
        · rcases List.mem_cons.1 hy with rfl | hy
          · rcases h with h | h
            · omega
            · exact .inl (e ▸ h)
          · exact .inr ⟨h1, y, hy, e⟩
    · rename_i h
      constructor
      · rintro (h1 | ⟨h1, y, hy, e⟩)
        · rcases List.mem_append.1 h1 with h1 | h1
          · exact .inl h1
          · rw [List.mem_singleton.1 h1]
            exact .inr ⟨by have : ¬ x.file < 0 := fun e => h (.inl e); omega, x, by simp, rfl⟩
        · exact .inr ⟨h1, y, List.mem_cons_of_mem _ hy, e⟩
      · rintro (h1 | ⟨h1, y, hy, e⟩)
        · exact .inl (by simp [h1])
        · rcases List.mem_cons.1 hy with rfl | hy
          · exact .inl (by simp [e])
          · exact .inr ⟨h1, y, hy, e⟩
theorem idsL_mem (l : List Node) (i : Int) : i ∈ idsL l ↔ 0 ≤ i ∧ ∃ x ∈ l, x.file = i := by rw [idsL, fold_mem]; simp
theorem idx_pre {ids r : List Int} {i : Int} (h : i ∈ ids) : (ids ++ r).idxOf i = ids.idxOf i := by rw [List.idxOf_append, if_pos h]
theorem reN_pre {ids r : List Int} {x : Node} (h : x.file < 0 ∨ x.file ∈ ids) : reN (ids ++ r) x = reN ids x := by
  unfold reN
  rcases h with h | h
  · rw [if_pos h, if_pos h]
  · rw [idx_pre h]
theorem map_re_snoc (l : List Node) (x : Node) : (l ++ [x]).map (reN (idsL (l ++ [x]))) = l.map (reN (idsL l)) ++ [reN (idsL (l ++ [x])) x] := by
  rw [List.map_append]
  congr 1
  obtain ⟨r, h⟩ := idsL_pre l [x]
  rw [h]
  refine List.map_congr_left fun y hy => reN_pre ?_
  by_cases e : y.file < 0
  · exact .inl e
  · exact .inr ((idsL_mem l _).2 ⟨by omega, y, hy, rfl⟩)
/-- A world's nodes at paths. -/
def nodesOf (l : List Node) (qs : List ByteArray) : List Node := qs.filterMap (nodeAt l)
theorem nodesOf_paths {l : List Node} : ∀ {qs : List ByteArray}, (∀ q ∈ qs, q ∈ l.map (·.path)) → (nodesOf l qs).map (·.path) = qs
  | [], _ => rfl
  | q :: t, h => by
    have ⟨x, hx⟩ : ∃ x, nodeAt l q = some x := by
      cases hq : nodeAt l q with
      | none =>
        obtain ⟨y, hy, e⟩ := List.mem_map.1 (h q (by simp))
        exact absurd e (nodeAt_none.1 hq y hy)
      | some x => exact ⟨x, rfl⟩
    have e : nodesOf l (q :: t) = x :: nodesOf l t := by simp [nodesOf, hx]
    rw [e, List.map_cons, nodesOf_paths fun q' hq' => h q' (List.mem_cons_of_mem _ hq'), (nodeAt_some hx).2]
theorem nodesOf_mem {l : List Node} {qs : List ByteArray} {x : Node} (h : x ∈ nodesOf l qs) : x ∈ l := by
  obtain ⟨q, _, hq⟩ := List.mem_filterMap.1 h
  exact (nodeAt_some hq).1
theorem nodesOf_get {l : List Node} {qs : List ByteArray} (h : ∀ q ∈ qs, q ∈ l.map (·.path)) {k : Nat} {q : ByteArray} (hk : qs[k]? = some q) : ∃ x, (nodesOf l qs)[k]? = some x ∧ nodeAt l q = some x := by
  have h1 := nodesOf_paths h
  have h2 : ((nodesOf l qs).map (·.path))[k]? = some q := by rw [h1]; exact hk
  rw [List.getElem?_map] at h2
  cases hx : (nodesOf l qs)[k]? with
  | none => rw [hx] at h2; cases h2
  | some x =>
    rw [hx] at h2
    simp only [Option.map_some, Option.some.injEq] at h2
    refine ⟨x, rfl, ?_⟩
    obtain ⟨q', _, hq'⟩ := List.mem_filterMap.1 (List.mem_of_getElem? hx)
    have := (nodeAt_some hq').2
    rw [← h2, this]
    exact hq'
theorem nodesOf_perm {l : List Node} (hA : Apart l) {qs : List ByteArray} (hp : qs.Perm (l.map (·.path))) : (nodesOf l qs).Perm l := by
  have hm : ∀ q ∈ qs, q ∈ l.map (·.path) := fun q hq => hp.mem_iff.1 hq
  have h1 : (nodesOf l qs).Nodup := by
    have : ((nodesOf l qs).map (·.path)).Nodup := by rw [nodesOf_paths hm]; exact hp.symm.nodup_iff.1 hA
    exact (List.pairwise_map.1 this).imp fun hne e => hne (by rw [e])
  have h2 : l.Nodup := (List.pairwise_map.1 hA).imp fun hne e => hne (by rw [e])
  refine List.perm_iff_count.2 fun x => ?_
  rw [h1.count, h2.count]
  have : x ∈ nodesOf l qs ↔ x ∈ l := by
    refine ⟨nodesOf_mem, fun hx => ?_⟩
    exact List.mem_filterMap.2 ⟨x.path, hp.mem_iff.2 (List.mem_map.2 ⟨x, hx, rfl⟩), nodeAt_mem hA hx⟩
  simp only [this]
theorem nodesOf_rises {l : List Node} (hA : Apart l) {qs : List ByteArray} (hp : qs.Perm (l.map (·.path))) (hs : qs.Pairwise fun a b => a.data.toList ≤ b.data.toList) : Rises (nodesOf l qs) := by
  have hm : ∀ q ∈ qs, q ∈ l.map (·.path) := fun q hq => hp.mem_iff.1 hq
  have hnd : qs.Nodup := hp.symm.nodup_iff.1 hA
  have h3 : qs.Pairwise fun a b => a.data.toList < b.data.toList := by
    have := hs.and hnd
    refine this.imp fun {a b} ⟨h1, h2⟩ => ?_
    rcases lt_or a.data.toList b.data.toList with h | h | h
    · exact h
    · exact absurd (ba_ext h) h2
    · exact absurd h h1
  have h4 := nodesOf_paths hm
  rw [← h4] at h3
  exact (List.pairwise_map (f := fun x : Node => x.path) (R := fun a b : ByteArray => a.data.toList < b.data.toList)).1 h3
end Go.Proofs.Ythmeffpickejkaa
