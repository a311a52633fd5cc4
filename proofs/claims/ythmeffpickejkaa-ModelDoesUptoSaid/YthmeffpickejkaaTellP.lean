/- A world's nodes by rising paths. -/
import Derived.Test.YthmeffpickejkaaCmd
import Derived.Test.YthmeffpickejkaaIds
namespace Go.Proofs.Ythmeffpickejkaa
open Go.RowKit

/-- A world's nodes at paths. -/
def nodesOf (l : List Node) (qs : List ByteArray) : List Node := qs.filterMap (nodeAt l)
theorem nodesOf_paths {l : List Node} : ∀ {qs : List ByteArray}, (∀ q ∈ qs, q ∈ l.map (·.path)) → (nodesOf l qs).map (·.path) = qs
  | [], _ => rfl
  | q :: t, h => by
    have ⟨x, hx⟩ : ∃ x, nodeAt l q = some x := by
      cases hq : nodeAt l q with
      | none =>
        obtain ⟨y, hy, e⟩ := List.mem_map.1 (h q (by simp))
        exact absurd e (nodeAt_none.1 hq y hy)
      | some x => exact ⟨x, rfl⟩
    have e : nodesOf l (q :: t) = x :: nodesOf l t := by simp [nodesOf, hx]
    rw [e, List.map_cons, nodesOf_paths fun q' hq' => h q' (List.mem_cons_of_mem _ hq'), (nodeAt_some hx).2]
theorem nodesOf_mem {l : List Node} {qs : List ByteArray} {x : Node} (h : x ∈ nodesOf l qs) : x ∈ l := by
  obtain ⟨q, _, hq⟩ := List.mem_filterMap.1 h
  exact (nodeAt_some hq).1
theorem nodesOf_get {l : List Node} {qs : List ByteArray} (h : ∀ q ∈ qs, q ∈ l.map (·.path)) {k : Nat} {q : ByteArray} (hk : qs[k]? = some q) : ∃ x, (nodesOf l qs)[k]? = some x ∧ nodeAt l q = some x := by
  have h1 := nodesOf_paths h
  have h2 : ((nodesOf l qs).map (·.path))[k]? = some q := by rw [h1]; exact hk
  rw [List.getElem?_map] at h2
  cases hx : (nodesOf l qs)[k]? with
  | none => rw [hx] at h2; cases h2
  | some x =>
    rw [hx] at h2
    simp only [Option.map_some, Option.some.injEq] at h2
    refine ⟨x, rfl, ?_⟩
    obtain ⟨q', _, hq'⟩ := List.mem_filterMap.1 (List.mem_of_getElem? hx)
    have := (nodeAt_some hq').2
    rw [← h2, this]
    exact hq'
theorem nodesOf_perm {l : List Node} (hA : Apart l) {qs : List ByteArray} (hp : qs.Perm (l.map (·.path))) : (nodesOf l qs).Perm l := by
  have hm : ∀ q ∈ qs, q ∈ l.map (·.path) := fun q hq => hp.mem_iff.1 hq
  have h1 : (nodesOf l qs).Nodup := by
    have : ((nodesOf l qs).map (·.path)).Nodup := by rw [nodesOf_paths hm]; exact hp.symm.nodup_iff.1 hA
    exact (List.pairwise_map.1 this).imp fun hne e => hne (by rw [e])
  have h2 : l.Nodup := (List.pairwise_map.1 hA).imp fun hne e => hne (by rw [e])
  refine List.perm_iff_count.2 fun x => ?_
  rw [h1.count, h2.count]
  have : x ∈ nodesOf l qs ↔ x ∈ l := by
    refine ⟨nodesOf_mem, fun hx => ?_⟩
    exact List.mem_filterMap.2 ⟨x.path, hp.mem_iff.2 (List.mem_map.2 ⟨x, hx, rfl⟩), nodeAt_mem hA hx⟩
  simp only [this]
theorem nodesOf_rises {l : List Node} (hA : Apart l) {qs : List ByteArray} (hp : qs.Perm (l.map (·.path))) (hs : qs.Pairwise fun a b => a.data.toList ≤ b.data.toList) : Rises (nodesOf l qs) := by
  have hm : ∀ q ∈ qs, q ∈ l.map (·.path) := fun q hq => hp.mem_iff.1 hq
  have hnd : qs.Nodup := hp.symm.nodup_iff.1 hA
  have h3 : qs.Pairwise fun a b => a.data.toList < b.data.toList := by
    have := hs.and hnd
    refine this.imp fun {a b} ⟨h1, h2⟩ => ?_
    rcases lt_or a.data.toList b.data.toList with h | h | h
    · exact h
    · exact absurd (ba_ext h) h2
    · exact absurd h h1
  have h4 := nodesOf_paths hm
  rw [← h4] at h3
  exact (List.pairwise_map (f := fun x : Node => x.path) (R := fun a b : ByteArray => a.data.toList < b.data.toList)).1 h3
end Go.Proofs.Ythmeffpickejkaa
