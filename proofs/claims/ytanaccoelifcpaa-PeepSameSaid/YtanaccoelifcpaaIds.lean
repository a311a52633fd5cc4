/- Files numbered anew by their first names. -/
import Derived.Test.YtanaccoelifcpaaTreeV
namespace Go.Proofs.Ytanaccoelifcpaa
open Go.RowKit

def idStep (acc : List Int) (x : Node) : List Int := if x.file < 0 ∨ x.file ∈ acc then acc else acc ++ [x.file]
/-- The files of a list, by their first names. -/
def idsL (l : List Node) : List Int := l.foldl idStep []
/-- A node whose file has its new number. -/
def reN (ids : List Int) (x : Node) : Node := if x.file < 0 then x else ⟨x.path, (ids.idxOf x.file : Nat), x.mode, x.hp⟩
theorem idsL_snoc (l : List Node) (x : Node) : idsL (l ++ [x]) = idStep (idsL l) x := by simp [idsL]
theorem idStep_pre (acc : List Int) (x : Node) : ∃ r, idStep acc x = acc ++ r := by
  unfold idStep
  split
  · exact ⟨[], by simp⟩
  · exact ⟨_, rfl⟩
theorem fold_pre : ∀ (l : List Node) (acc : List Int), ∃ r, l.foldl idStep acc = acc ++ r
  | [], acc => ⟨[], by simp⟩
  | x :: t, acc => by
    obtain ⟨r, h⟩ := idStep_pre acc x
    obtain ⟨r', h'⟩ := fold_pre t (idStep acc x)
    exact ⟨r ++ r', by rw [List.foldl_cons, h', h, List.append_assoc]⟩
theorem idsL_pre (l m : List Node) : ∃ r, idsL (l ++ m) = idsL l ++ r := by
  obtain ⟨r, h⟩ := fold_pre m (idsL l)
  exact ⟨r, by rw [← h, idsL, idsL, List.foldl_append]⟩
theorem idStep_nodup {acc : List Int} (h : acc.Nodup) (x : Node) : (idStep acc x).Nodup := by
  unfold idStep
  split
  · exact h
  · rename_i hn
    rw [List.nodup_append]
    exact ⟨h, by simp, fun a ha b hb e => by rw [List.mem_singleton.1 hb] at e; exact hn (.inr (e ▸ ha))⟩
theorem fold_nodup : ∀ (l : List Node) (acc : List Int), acc.Nodup → (l.foldl idStep acc).Nodup
  | [], _, h => h
  | x :: t, acc, h => by rw [List.foldl_cons]; exact fold_nodup t _ (idStep_nodup h x)
theorem idsL_nodup (l : List Node) : (idsL l).Nodup := fold_nodup l [] List.nodup_nil
theorem fold_mem : ∀ (l : List Node) (acc : List Int) (i : Int), i ∈ l.foldl idStep acc ↔ i ∈ acc ∨ (0 ≤ i ∧ ∃ x ∈ l, x.file = i)
  | [], acc, i => by simp
  | x :: t, acc, i => by
    rw [List.foldl_cons, fold_mem t]
    unfold idStep
    split
    · rename_i h
      constructor
      · rintro (h1 | ⟨h1, y, hy, e⟩)
        · exact .inl h1
        · exact .inr ⟨h1, y, List.mem_cons_of_mem _ hy, e⟩
      · rintro (h1 | ⟨h1, y, hy, e⟩)
        · exact .inl h1
        · rcases List.mem_cons.1 hy with rfl | hy
          · rcases h with h | h
            · omega
            · exact .inl (e ▸ h)
          · exact .inr ⟨h1, y, hy, e⟩
    · rename_i h
      constructor
      · rintro (h1 | ⟨h1, y, hy, e⟩)
        · rcases List.mem_append.1 h1 with h1 | h1
          · exact .inl h1
          · rw [List.mem_singleton.1 h1]
            exact .inr ⟨by have : ¬ x.file < 0 := fun e => h (.inl e); omega, x, by simp, rfl⟩
        · exact .inr ⟨h1, y, List.mem_cons_of_mem _ hy, e⟩
      · rintro (h1 | ⟨h1, y, hy, e⟩)
        · exact .inl (by simp [h1])
        · rcases List.mem_cons.1 hy with rfl | hy
          · exact .inl (by simp [e])
          · exact .inr ⟨h1, y, hy, e⟩
theorem idsL_mem (l : List Node) (i : Int) : i ∈ idsL l ↔ 0 ≤ i ∧ ∃ x ∈ l, x.file = i := by rw [idsL, fold_mem]; simp
theorem idx_pre {ids r : List Int} {i : Int} (h : i ∈ ids) : (ids ++ r).idxOf i = ids.idxOf i := by rw [List.idxOf_append, if_pos h]
theorem reN_pre {ids r : List Int} {x : Node} (h : x.file < 0 ∨ x.file ∈ ids) : reN (ids ++ r) x = reN ids x := by
  unfold reN
  rcases h with h | h
  · rw [if_pos h, if_pos h]
  · rw [idx_pre h]
theorem map_re_snoc (l : List Node) (x : Node) : (l ++ [x]).map (reN (idsL (l ++ [x]))) = l.map (reN (idsL l)) ++ [reN (idsL (l ++ [x])) x] := by
  rw [List.map_append]
  congr 1
  obtain ⟨r, h⟩ := idsL_pre l [x]
  rw [h]
  refine List.map_congr_left fun y hy => reN_pre ?_
  by_cases e : y.file < 0
  · exact .inl e
  · exact .inr ((idsL_mem l _).2 ⟨by omega, y, hy, rfl⟩)
end Go.Proofs.Ytanaccoelifcpaa
