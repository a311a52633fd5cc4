/- What a world holds to is kept by every instruction. -/
import Derived.Test.YthmeffpickejkaaDoOp
import Derived.Test.YthmeffpickejkaaOpenW
namespace Go.Proofs.Ythmeffpickejkaa
open Go.RowKit

theorem nodeAt_files {l : List Node} {p : ByteArray} {x : Node} (h : nodeAt l p = some x) : x ∈ l := (nodeAt_some h).1
/-- Where no directory above a path lacks, each of its prefixes is one. -/
theorem lookGo_dirs (l : List Node) (p : ByteArray) : ∀ (n pos : Nat), lookGo l p n pos = 0 → ∀ i, pos ≤ i → i < pos + n → p.data.toList[i]? = some 47 → ∃ x, nodeAt l (p.extract 0 i) = some x ∧ x.file < 0
  | 0, _, _, i, h1, h2, _ => by omega
  | n + 1, pos, h, i, h1, h2, h3 => by
    rw [lookGo] at h
    by_cases e : i = pos
    · subst e
      rw [if_pos h3] at h
      split at h
      · cases h
      · rename_i x hx
        refine ⟨x, hx, ?_⟩
        split at h
        · cases h
        · omega
    · have ih : lookGo l p n (pos + 1) = 0 → _ := fun h => lookGo_dirs l p n (pos + 1) h i (by omega) (by omega) h3
      split at h
      · split at h
        · cases h
        · split at h
          · cases h
          · exact ih h
      · exact ih h
theorem lastTo_at (l : List UInt8) (c : UInt8) : ∀ k, 0 ≤ lastTo l c k → l[(lastTo l c k).toNat]? = some c
  | 0, h => by simp [lastTo] at h
  | k + 1, h => by
    rw [lastTo] at h ⊢
    split
    · rename_i e
      rw [Int.toNat_natCast]
      exact e
    · rename_i e
      rw [if_neg e] at h
      exact lastTo_at l c k h
theorem look_dirIn {M : PW} (hI : M.Inv) {p : ByteArray} (h : lookE M.nodes p = 0) : DirIn M.nodes (parentB p).data.toList := by
  unfold parentB
  split
  · by_cases hl : 0 ≤ lastIx p 47
    · have h1 := lastTo_lt p.data.toList 47 p.size
      obtain ⟨x, hx, hf⟩ := lookGo_dirs M.nodes p p.size 0 h (lastIx p 47).toNat (Nat.zero_le _) (by unfold lastIx at hl ⊢; omega) (lastTo_at _ _ _ hl)
      obtain ⟨hm, he⟩ := nodeAt_some hx
      refine .inr ⟨x, hm, by rw [pathL, he], ?_⟩
      rcases hI.kind x hm with k | k <;> omega
    · have : (lastIx p 47).toNat = 0 := by omega
      rw [this]
      left
      simp
  · exact .inl rfl
theorem abs_dir {M : PW} (hI : M.Inv) {p : ByteArray} (h : absE M.nodes p = 0) : DirIn M.nodes (parentB p).data.toList := by
  refine look_dirIn hI ?_
  unfold absE at h
  split at h
  · cases h
  · exact h
theorem dirIn_mono {l m : List Node} (h : ∀ x ∈ l, x ∈ m) {q : List UInt8} (hd : DirIn l q) : DirIn m q := hd.imp id fun ⟨y, hy, e⟩ => ⟨y, h y hy, e⟩
theorem apart_snoc {l : List Node} (hA : Apart l) {x : Node} (h : x.path ∉ l.map (·.path)) : Apart (l ++ [x]) := by
  rw [Apart, List.map_append, List.nodup_append]
  exact ⟨hA, by simp, fun a ha b hb e => by simp at hb; exact h (by rw [← hb, ← e]; exact ha)⟩
theorem inv_put {M : PW} (hI : M.Inv) {x : Node} (hn : nodeAt M.nodes x.path = none) (hv : validL (pathL x) = true) (hd : DirIn M.nodes (parentB x.path).data.toList) (hk : (x.file = -1 ∧ okMode x.mode = true) ∨ (0 ≤ x.file ∧ x.mode = 0 ∧ x.file ∈ M.files.map (·.id))) : (M.put x).Inv := by
  have sub : ∀ y ∈ M.nodes, y ∈ M.nodes ++ [x] := fun y hy => List.mem_append.2 (.inl hy)
  have spl : ∀ {P : Node → Prop}, (∀ y ∈ M.nodes, P y) → P x → ∀ y ∈ M.nodes ++ [x], P y := fun h1 h2 y hy => (List.mem_append.1 hy).elim (h1 y) (fun e => by rw [List.mem_singleton.1 e]; exact h2)
  exact ⟨apart_snoc hI.apart (not_path hn), spl hI.valid hv, spl (fun y hy => dirIn_mono sub (hI.dir y hy)) (dirIn_mono sub hd), spl hI.kind hk, hI.ids, fun f hf => by obtain ⟨y, hy, e⟩ := hI.hit f hf; exact ⟨y, sub y hy, e⟩, hI.fbd, hI.n0⟩
theorem noPath_mem {l : List Node} {p : ByteArray} {y : Node} : y ∈ noPath l p ↔ y ∈ l ∧ y.path ≠ p := by simp [noPath]
theorem inv_take {M : PW} (hI : M.Inv) {x : Node} (hx : x ∈ M.nodes) (hk : ∀ y ∈ M.nodes, x.file < 0 → (parentB y.path).data.toList ≠ pathL x) : (M.take x).Inv := by
  have hne : ∀ y ∈ M.nodes, y.path = x.path → y = x := fun y hy e => apart_inj hI.apart hy hx e
  have hfiles : ∀ f ∈ (M.take x).files, f ∈ M.files := fun f hf => by
    simp only [PW.take] at hf
    split at hf
    · exact (List.mem_filter.1 hf).1
    · exact hf
  refine ⟨?_, fun y hy => hI.valid y (noPath_mem.1 hy).1, fun y hy => ?_, fun y hy => ?_, ?_, fun f hf => ?_, fun f hf => hI.fbd f (hfiles f hf), hI.n0⟩
  · rw [Apart]
    exact hI.apart.sublist (List.filter_sublist.map _)
  · obtain ⟨hy1, hy2⟩ := noPath_mem.1 hy
    rcases hI.dir y hy1 with h | ⟨z, hz, h1, h2⟩
    · exact .inl h
    · refine .inr ⟨z, noPath_mem.2 ⟨hz, fun e => ?_⟩, h1, h2⟩
      have := hne z hz e
      subst this
      exact hk y hy1 (by omega) h1.symm
  · obtain ⟨hy1, hy2⟩ := noPath_mem.1 hy
    refine (hI.kind y hy1).imp id fun ⟨a, b, c⟩ => ⟨a, b, ?_⟩
    simp only [PW.take]
    split
    · rename_i h
      obtain ⟨f, hf, e⟩ := List.mem_map.1 c
      refine List.mem_map.2 ⟨f, List.mem_filter.2 ⟨hf, ?_⟩, e⟩
      simp only [Bool.not_eq_true', decide_eq_false_iff_not]
      intro e2
      have h2 := h.2
      rw [namesC, List.countP_eq_zero] at h2
      exact h2 y hy (by simp; omega)
    · exact c
  · simp only [PW.take]
    split
    · exact hI.ids.sublist (List.filter_sublist.map _)
    · exact hI.ids
  · obtain ⟨y, hy, e⟩ := hI.hit f (hfiles f hf)
    by_cases e2 : y.path = x.path
    · have := hne y hy e2
      subst this
      have hf0 := (hI.fbd f (hfiles f hf)).1
      simp only [PW.take] at hf ⊢
      split at hf
      · have := (List.mem_filter.1 hf).2
        simp at this
        exact absurd e.symm this
      · rename_i h
        have h3 : namesC (noPath M.nodes y.path) y.file ≠ 0 := fun h4 => h ⟨by omega, h4⟩
        have h4 : 0 < namesC (noPath M.nodes y.path) y.file := Nat.pos_of_ne_zero h3
        obtain ⟨z, hz, hz2⟩ := List.countP_pos_iff.1 h4
        exact ⟨z, hz, by simp at hz2; rw [hz2, e]⟩
    · exact ⟨y, noPath_mem.2 ⟨hy, e2⟩, e⟩
theorem inv_made {M : PW} (hI : M.Inv) {p : ByteArray} {hp : p.size ≤ 9223372036854775807} {mode : Int} {d : ByteArray} (hn : nodeAt M.nodes p = none) (hv : validL p.data.toList = true) (hd : DirIn M.nodes (parentB p).data.toList) (hm : okMode mode = true) (hds : d.size ≤ 8192) : (M.made p hp mode d).Inv := by
  have h1 : ({ M with files := M.files ++ [⟨M.next, mode, d⟩], next := M.next + 1 } : PW).Inv ∨ True := .inr trivial
  have sub : ∀ y ∈ M.nodes, y ∈ M.nodes ++ [(⟨p, M.next, 0, hp⟩ : Node)] := fun y hy => List.mem_append.2 (.inl hy)
  have spl : ∀ {P : Node → Prop}, (∀ y ∈ M.nodes, P y) → P ⟨p, M.next, 0, hp⟩ → ∀ y ∈ M.nodes ++ [(⟨p, M.next, 0, hp⟩ : Node)], P y := fun h1 h2 y hy => (List.mem_append.1 hy).elim (h1 y) (fun e => by rw [List.mem_singleton.1 e]; exact h2)
  have splf : ∀ {P : PF → Prop}, (∀ y ∈ M.files, P y) → P ⟨M.next, mode, d⟩ → ∀ y ∈ M.files ++ [(⟨M.next, mode, d⟩ : PF)], P y := fun h1 h2 y hy => (List.mem_append.1 hy).elim (h1 y) (fun e => by rw [List.mem_singleton.1 e]; exact h2)
  have h0 := hI.n0
  refine ⟨apart_snoc hI.apart (not_path hn), spl hI.valid hv, spl (fun y hy => dirIn_mono sub (hI.dir y hy)) (dirIn_mono sub hd), spl (fun y hy => (hI.kind y hy).imp id fun ⟨a, b, c⟩ => ⟨a, b, by simp only [PW.made, List.map_append, List.mem_append]; exact .inl c⟩) (.inr ⟨h0, rfl, by simp [PW.made]⟩), ?_, ?_, ?_, by simp only [PW.made]; omega⟩
  · simp only [PW.made, List.map_append]
    rw [List.nodup_append]
    refine ⟨hI.ids, by simp, fun a ha b hb e => ?_⟩
    obtain ⟨f, hf, e2⟩ := List.mem_map.1 ha
    have := (hI.fbd f hf).2.1
    simp at hb
    omega
  · exact splf (fun f hf => by obtain ⟨y, hy, e⟩ := hI.hit f hf; exact ⟨y, sub y hy, e⟩) ⟨⟨p, M.next, 0, hp⟩, by simp [PW.made], rfl⟩
  · exact splf (fun f hf => by obtain ⟨a, b, c⟩ := hI.fbd f hf; exact ⟨a, by simp only [PW.made]; omega, c⟩) ⟨h0, by simp only [PW.made]; omega, hm, hds⟩
theorem inv_chmod {M : PW} (hI : M.Inv) (p : ByteArray) {mode : Int} (hm : okMode mode = true) : (M.chmod p mode).Inv := by
  unfold PW.chmod
  split
  · rename_i x hx
    obtain ⟨hxm, hxp⟩ := nodeAt_some hx
    split
    · rename_i hneg
      have hx1 : x.file = -1 := by rcases hI.kind x hxm with k | k <;> omega
      have huq : ∀ y ∈ M.nodes, y.path = p → y = x := fun y hy e => apart_inj hI.apart hy hxm (e.trans hxp.symm)
      have hpaths : (chmodN M.nodes p mode).map (·.path) = M.nodes.map (·.path) := by
        simp only [chmodN, List.map_map]
        refine List.map_congr_left fun y _ => ?_
        simp only [Function.comp]
        split <;> rfl
      have key : ∀ {P : Node → Prop}, (∀ y ∈ M.nodes, y.path ≠ p → P y) → P ⟨x.path, -1, mode, x.hp⟩ → ∀ y ∈ chmodN M.nodes p mode, P y := fun h1 h2 y hy => by
        obtain ⟨z, hz, rfl⟩ := List.mem_map.1 hy
        split
        · rename_i e
          rw [huq z hz e]; exact h2
        · rename_i e
          exact h1 z hz e
      have hdir : ∀ q, DirIn M.nodes q → DirIn (chmodN M.nodes p mode) q := fun q hq => hq.imp id fun ⟨y, hy, e1, e2⟩ => by
        by_cases e : y.path = p
        · exact ⟨⟨y.path, -1, mode, y.hp⟩, List.mem_map.2 ⟨y, hy, by rw [if_pos e]⟩, e1, rfl⟩
        · exact ⟨y, List.mem_map.2 ⟨y, hy, by rw [if_neg e]⟩, e1, e2⟩
      refine ⟨by rw [Apart]; show ((chmodN M.nodes p mode).map (·.path)).Nodup; rw [hpaths]; exact hI.apart, key (fun y hy _ => hI.valid y hy) (hI.valid x hxm), key (fun y hy _ => hdir _ (hI.dir y hy)) (hdir _ (hI.dir x hxm)), key (fun y hy _ => hI.kind y hy) (.inl ⟨rfl, hm⟩), hI.ids, fun f hf => ?_, hI.fbd, hI.n0⟩
      obtain ⟨y, hy, e⟩ := hI.hit f hf
      have hf0 := (hI.fbd f hf).1
      refine ⟨y, List.mem_map.2 ⟨y, hy, ?_⟩, e⟩
      rw [if_neg]
      intro e2
      rw [huq y hy e2] at e
      omega
    · have hids : (chmodF M.files x.file mode).map (·.id) = M.files.map (·.id) := by
        simp only [chmodF, List.map_map]
        refine List.map_congr_left fun y _ => ?_
        simp only [Function.comp]
        split <;> rfl
      refine ⟨hI.apart, hI.valid, hI.dir, fun y hy => (hI.kind y hy).imp id fun ⟨a, b, c⟩ => ⟨a, b, by show _ ∈ (chmodF M.files x.file mode).map (·.id); rw [hids]; exact c⟩, by show ((chmodF M.files x.file mode).map (·.id)).Nodup; rw [hids]; exact hI.ids, fun f hf => ?_, fun f hf => ?_, hI.n0⟩
      · obtain ⟨g, hg, rfl⟩ := List.mem_map.1 hf
        obtain ⟨y, hy, e⟩ := hI.hit g hg
        exact ⟨y, hy, by rw [e]; split <;> rfl⟩
      · obtain ⟨g, hg, rfl⟩ := List.mem_map.1 hf
        have := hI.fbd g hg
        split
        · exact ⟨this.1, this.2.1, hm, this.2.2.2⟩
        · exact this
  · exact hI
end Go.Proofs.Ythmeffpickejkaa
