/- What a world holds to is kept by every instruction; a loose tree's world holds to it. model.Do: the tree behind an instruction. -/
import Derived.Test.YtanaccoelifcpaaDoOps
import Derived.Test.YtanaccoelifcpaaOpenW
import Derived.Test.YtanaccoelifcpaaTells

namespace Go.Proofs.Ytanaccoelifcpaa
open Go.RowKit

theorem nodeAt_files {l : List Node} {p : ByteArray} {x : Node} (h : nodeAt l p = some x) : x ∈ l := (nodeAt_some h).1
/-- Where no directory above a path lacks, each of its prefixes is one. -/
theorem lookGo_dirs (l : List Node) (p : ByteArray) : ∀ (n pos : Nat), lookGo l p n pos = 0 → ∀ i, pos ≤ i → i < pos + n → p.data.toList[i]? = some 47 → ∃ x, nodeAt l (p.extract 0 i) = some x ∧ x.file < 0
  | 0, _, _, i, h1, h2, _ => by omega
  | n + 1, pos, h, i, h1, h2, h3 => by
    rw [lookGo] at h
    by_cases e : i = pos
    · subst e
      rw [if_pos h3] at h
      split at h
      · cases h
      · rename_i x hx
        refine ⟨x, hx, ?_⟩
        split at h
        · cases h
        · omega
    · have ih : lookGo l p n (pos + 1) = 0 → _ := fun h => lookGo_dirs l p n (pos + 1) h i (by omega) (by omega) h3
      split at h
      · split at h
        · cases h
        · split at h
          · cases h
          · exact ih h
      · exact ih h
theorem lastTo_at (l : List UInt8) (c : UInt8) : ∀ k, 0 ≤ lastTo l c k → l[(lastTo l c k).toNat]? = some c
  | 0, h => by simp [lastTo] at h
  | k + 1, h => by
    rw [lastTo] at h ⊢
    split
    · rename_i e
      rw [Int.toNat_natCast]
      exact e
    · rename_i e
      rw [if_neg e] at h
      exact lastTo_at l c k h
theorem look_dirIn {M : PW} (hI : M.Inv) {p : ByteArray} (h : lookE M.nodes p = 0) : DirIn M.nodes (parentB p).data.toList := by
  unfold parentB
  split
  · by_cases hl : 0 ≤ lastIx p 47
    · have h1 := lastTo_lt p.data.toList 47 p.size
      obtain ⟨x, hx, hf⟩ := lookGo_dirs M.nodes p p.size 0 h (lastIx p 47).toNat (Nat.zero_le _) (by unfold lastIx at hl ⊢; omega) (lastTo_at _ _ _ hl)
      obtain ⟨hm, he⟩ := nodeAt_some hx
      refine .inr ⟨x, hm, by rw [pathL, he], ?_⟩
      rcases hI.kind x hm with k | k <;> omega
    · have : (lastIx p 47).toNat = 0 := by omega
      rw [this]
      left
      simp
  · exact .inl rfl
theorem abs_dir {M : PW} (hI : M.Inv) {p : ByteArray} (h : absE M.nodes p = 0) : DirIn M.nodes (parentB p).data.toList := by
  refine look_dirIn hI ?_
  unfold absE at h
  split at h
  · cases h
  · exact h
theorem dirIn_mono {l m : List Node} (h : ∀ x ∈ l, x ∈ m) {q : List UInt8} (hd : DirIn l q) : DirIn m q := hd.imp id fun ⟨y, hy, e⟩ => ⟨y, h y hy, e⟩
theorem apart_snoc {l : List Node} (hA : Apart l) {x : Node} (h : x.path ∉ l.map (·.path)) : Apart (l ++ [x]) := by
  rw [Apart, List.map_append, List.nodup_append]
  exact ⟨hA, by simp, fun a ha b hb e => by simp at hb; exact h (by rw [← hb, ← e]; exact ha)⟩
theorem inv_put {M : PW} (hI : M.Inv) {x : Node} (hn : nodeAt M.nodes x.path = none) (hv : validL (pathL x) = true) (hd : DirIn M.nodes (parentB x.path).data.toList) (hk : (x.file = -1 ∧ okMode x.mode = true) ∨ (0 ≤ x.file ∧ x.mode = 0 ∧ x.file ∈ M.files.map (·.id))) : (M.put x).Inv := by
  have sub : ∀ y ∈ M.nodes, y ∈ M.nodes ++ [x] := fun y hy => List.mem_append.2 (.inl hy)
  have spl : ∀ {P : Node → Prop}, (∀ y ∈ M.nodes, P y) → P x → ∀ y ∈ M.nodes ++ [x], P y := fun h1 h2 y hy => (List.mem_append.1 hy).elim (h1 y) (fun e => by rw [List.mem_singleton.1 e]; exact h2)
  exact ⟨apart_snoc hI.apart (not_path hn), spl hI.valid hv, spl (fun y hy => dirIn_mono sub (hI.dir y hy)) (dirIn_mono sub hd), spl hI.kind hk, hI.ids, fun f hf => by obtain ⟨y, hy, e⟩ := hI.hit f hf; exact ⟨y, sub y hy, e⟩, hI.fbd, hI.n0⟩
theorem noPath_mem {l : List Node} {p : ByteArray} {y : Node} : y ∈ noPath l p ↔ y ∈ l ∧ y.path ≠ p := by simp [noPath]
theorem inv_take {M : PW} (hI : M.Inv) {x : Node} (hx : x ∈ M.nodes) (hk : ∀ y ∈ M.nodes, x.file < 0 → (parentB y.path).data.toList ≠ pathL x) : (M.take x).Inv := by
  have hne : ∀ y ∈ M.nodes, y.path = x.path → y = x := fun y hy e => apart_inj hI.apart hy hx e
  have hfiles : ∀ f ∈ (M.take x).files, f ∈ M.files := fun f hf => by
    simp only [PW.take] at hf
    split at hf
    · exact (List.mem_filter.1 hf).1
    · exact hf
  refine ⟨?_, fun y hy => hI.valid y (noPath_mem.1 hy).1, fun y hy => ?_, fun y hy => ?_, ?_, fun f hf => ?_, fun f hf => hI.fbd f (hfiles f hf), hI.n0⟩
  · rw [Apart]
    exact hI.apart.sublist (List.filter_sublist.map _)
  · obtain ⟨hy1, hy2⟩ := noPath_mem.1 hy
    rcases hI.dir y hy1 with h | ⟨z, hz, h1, h2⟩
    · exact .inl h
    · refine .inr ⟨z, noPath_mem.2 ⟨hz, fun e => ?_⟩, h1, h2⟩
      have := hne z hz e
      subst this
      exact hk y hy1 (by omega) h1.symm
  · obtain ⟨hy1, hy2⟩ := noPath_mem.1 hy
    refine (hI.kind y hy1).imp id fun ⟨a, b, c⟩ => ⟨a, b, ?_⟩
    simp only [PW.take]
    split
    · rename_i h
      obtain ⟨f, hf, e⟩ := List.mem_map.1 c
      refine List.mem_map.2 ⟨f, List.mem_filter.2 ⟨hf, ?_⟩, e⟩
      simp only [Bool.not_eq_true', decide_eq_false_iff_not]
      intro e2
      have h2 := h.2
      rw [namesC, List.countP_eq_zero] at h2
      exact h2 y hy (by simp; omega)
    · exact c
  · simp only [PW.take]
    split
    · exact hI.ids.sublist (List.filter_sublist.map _)
    · exact hI.ids
  · obtain ⟨y, hy, e⟩ := hI.hit f (hfiles f hf)
    by_cases e2 : y.path = x.path
    · have := hne y hy e2
      subst this
      have hf0 := (hI.fbd f (hfiles f hf)).1
      simp only [PW.take] at hf ⊢
      split at hf
      · have := (List.mem_filter.1 hf).2
        simp at this
        exact absurd e.symm this
      · rename_i h
        have h3 : namesC (noPath M.nodes y.path) y.file ≠ 0 := fun h4 => h ⟨by omega, h4⟩
        have h4 : 0 < namesC (noPath M.nodes y.path) y.file := Nat.pos_of_ne_zero h3
        obtain ⟨z, hz, hz2⟩ := List.countP_pos_iff.1 h4
        exact ⟨z, hz, by simp at hz2; rw [hz2, e]⟩
    · exact ⟨y, noPath_mem.2 ⟨hy, e2⟩, e⟩
theorem inv_made {M : PW} (hI : M.Inv) {p : ByteArray} {hp : p.size ≤ 9223372036854775807} {mode : Int} {d : ByteArray} (hn : nodeAt M.nodes p = none) (hv : validL p.data.toList = true) (hd : DirIn M.nodes (parentB p).data.toList) (hm : okMode mode = true) (hds : d.size ≤ 8192) : (M.made p hp mode d).Inv := by
  have h1 : ({ M with files := M.files ++ [⟨M.next, mode, d⟩], next := M.next + 1 } : PW).Inv ∨ True := .inr trivial
  have sub : ∀ y ∈ M.nodes, y ∈ M.nodes ++ [(⟨p, M.next, 0, hp⟩ : Node)] := fun y hy => List.mem_append.2 (.inl hy)
  have spl : ∀ {P : Node → Prop}, (∀ y ∈ M.nodes, P y) → P ⟨p, M.next, 0, hp⟩ → ∀ y ∈ M.nodes ++ [(⟨p, M.next, 0, hp⟩ : Node)], P y := fun h1 h2 y hy => (List.mem_append.1 hy).elim (h1 y) (fun e => by rw [List.mem_singleton.1 e]; exact h2)
  have splf : ∀ {P : PF → Prop}, (∀ y ∈ M.files, P y) → P ⟨M.next, mode, d⟩ → ∀ y ∈ M.files ++ [(⟨M.next, mode, d⟩ : PF)], P y := fun h1 h2 y hy => (List.mem_append.1 hy).elim (h1 y) (fun e => by rw [List.mem_singleton.1 e]; exact h2)
  have h0 := hI.n0
  refine ⟨apart_snoc hI.apart (not_path hn), spl hI.valid hv, spl (fun y hy => dirIn_mono sub (hI.dir y hy)) (dirIn_mono sub hd), spl (fun y hy => (hI.kind y hy).imp id fun ⟨a, b, c⟩ => ⟨a, b, by simp only [PW.made, List.map_append, List.mem_append]; exact .inl c⟩) (.inr ⟨h0, rfl, by simp [PW.made]⟩), ?_, ?_, ?_, by simp only [PW.made]; omega⟩
  · simp only [PW.made, List.map_append]
    rw [List.nodup_append]
    refine ⟨hI.ids, by simp, fun a ha b hb e => ?_⟩
    obtain ⟨f, hf, e2⟩ := List.mem_map.1 ha
    have := (hI.fbd f hf).2.1
    simp at hb
    omega
  · exact splf (fun f hf => by obtain ⟨y, hy, e⟩ := hI.hit f hf; exact ⟨y, sub y hy, e⟩) ⟨⟨p, M.next, 0, hp⟩, by simp [PW.made], rfl⟩
  · exact splf (fun f hf => by obtain ⟨a, b, c⟩ := hI.fbd f hf; exact ⟨a, by simp only [PW.made]; omega, c⟩) ⟨h0, by simp only [PW.made]; omega, hm, hds⟩
theorem inv_chmod {M : PW} (hI : M.Inv) (p : ByteArray) {mode : Int} (hm : okMode mode = true) : (M.chmod p mode).Inv := by
  unfold PW.chmod
  split
  · rename_i x hx
    obtain ⟨hxm, hxp⟩ := nodeAt_some hx
    split
    · rename_i hneg
      have hx1 : x.file = -1 := by rcases hI.kind x hxm with k | k <;> omega
      have huq : ∀ y ∈ M.nodes, y.path = p → y = x := fun y hy e => apart_inj hI.apart hy hxm (e.trans hxp.symm)
      have hpaths : (chmodN M.nodes p mode).map (·.path) = M.nodes.map (·.path) := by
        simp only [chmodN, List.map_map]
        refine List.map_congr_left fun y _ => ?_
        simp only [Function.comp]
        split <;> rfl
      have key : ∀ {P : Node → Prop}, (∀ y ∈ M.nodes, y.path ≠ p → P y) → P ⟨x.path, -1, mode, x.hp⟩ → ∀ y ∈ chmodN M.nodes p mode, P y := fun h1 h2 y hy => by
        obtain ⟨z, hz, rfl⟩ := List.mem_map.1 hy
        split
        · rename_i e
          rw [huq z hz e]; exact h2
        · rename_i e
          exact h1 z hz e
      have hdir : ∀ q, DirIn M.nodes q → DirIn (chmodN M.nodes p mode) q := fun q hq => hq.imp id fun ⟨y, hy, e1, e2⟩ => by
        by_cases e : y.path = p
        · exact ⟨⟨y.path, -1, mode, y.hp⟩, List.mem_map.2 ⟨y, hy, by rw [if_pos e]⟩, e1, rfl⟩
        · exact ⟨y, List.mem_map.2 ⟨y, hy, by rw [if_neg e]⟩, e1, e2⟩
      refine ⟨by rw [Apart]; show ((chmodN M.nodes p mode).map (·.path)).Nodup; rw [hpaths]; exact hI.apart, key (fun y hy _ => hI.valid y hy) (hI.valid x hxm), key (fun y hy _ => hdir _ (hI.dir y hy)) (hdir _ (hI.dir x hxm)), key (fun y hy _ => hI.kind y hy) (.inl ⟨rfl, hm⟩), hI.ids, fun f hf => ?_, hI.fbd, hI.n0⟩
      obtain ⟨y, hy, e⟩ := hI.hit f hf
      have hf0 := (hI.fbd f hf).1
      refine ⟨y, List.mem_map.2 ⟨y, hy, ?_⟩, e⟩
      rw [if_neg]
      intro e2
      rw [huq y hy e2] at e
      omega
    · have hids : (chmodF M.files x.file mode).map (·.id) = M.files.map (·.id) := by
        simp only [chmodF, List.map_map]
        refine List.map_congr_left fun y _ => ?_
        simp only [Function.comp]
        split <;> rfl
      refine ⟨hI.apart, hI.valid, hI.dir, fun y hy => (hI.kind y hy).imp id fun ⟨a, b, c⟩ => ⟨a, b, by show _ ∈ (chmodF M.files x.file mode).map (·.id); rw [hids]; exact c⟩, by show ((chmodF M.files x.file mode).map (·.id)).Nodup; rw [hids]; exact hI.ids, fun f hf => ?_, fun f hf => ?_, hI.n0⟩
      · obtain ⟨g, hg, rfl⟩ := List.mem_map.1 hf
        obtain ⟨y, hy, e⟩ := hI.hit g hg
        exact ⟨y, hy, by rw [e]; split <;> rfl⟩
      · obtain ⟨g, hg, rfl⟩ := List.mem_map.1 hf
        have := hI.fbd g hg
        split
        · exact ⟨this.1, this.2.1, hm, this.2.2.2⟩
        · exact this
  · exact hI

theorem inv_open {t : TV} {ds : List ByteArray} (h : Good t) (hfl : t.files.length = t.fn) (hdl : ds.length = t.files.length) (hdz : ∀ (k : Nat) (x : FC) (d : ByteArray), t.files[k]? = some x → ds[k]? = some d → d.size = x.n) : (openM t ds).Inv := by
  refine ⟨apart_of_rises h.rises, h.valid, h.dir, fun x hx => ?_, ?_, fun f hf => ?_, fun f hf => ?_, Int.natCast_nonneg _⟩
  · refine (h.kind x hx).imp id fun ⟨a, b, c⟩ => ⟨a, c, ?_⟩
    show x.file ∈ (filesP t ds t.fn).map (·.id)
    rw [filesP_ids]
    exact List.mem_map.2 ⟨x.file.toNat, List.mem_range.2 (by omega), by omega⟩
  · show ((filesP t ds t.fn).map (·.id)).Nodup
    rw [filesP_ids, List.Nodup, List.pairwise_map]
    exact List.nodup_range.imp fun hne e => hne (by omega)
  · obtain ⟨i, hi, rfl⟩ := List.mem_map.1 hf
    have := List.mem_range.1 hi
    exact h.hit i (by omega) (by omega)
  · obtain ⟨i, hi, rfl⟩ := List.mem_map.1 hf
    have hlt := List.mem_range.1 hi
    have hx : t.files[i]? = some (t.files[i]'(by omega)) := List.getElem?_eq_getElem _
    have hd : ds[i]? = some (ds[i]'(by omega)) := List.getElem?_eq_getElem _
    simp only [treeF_at hx hd]
    refine ⟨by omega, ?_, h.modes _ (List.mem_of_getElem? hx), ?_⟩
    · show (i : Int) < t.fn; omega
    · rw [hdz i _ _ hx hd]; exact h.small _ (List.mem_of_getElem? hx)
theorem pre_vacant {M : PW} (hI : M.Inv) {p : ByteArray} (h : rmE M p = 0) : ∀ x, nodeAt M.nodes p = some x → x.file = -1 ∧ kidsC M.nodes p = 0 := fun x hx => by
  unfold rmE at h
  split at h
  · rename_i h1; exact absurd h h1
  · rename_i h1
    obtain ⟨y, hy, e1, _⟩ := pre0 (l := M.nodes) (p := p) (by omega)
    rw [hx] at hy
    injection hy with hy
    subst hy
    split at h
    · cases h
    · rename_i h2
      split at h
      · cases h
      · rename_i h3
        have hm := (nodeAt_some hx).1
        refine ⟨?_, by omega⟩
        rcases hI.kind x hm with k | k <;> omega
theorem no_kids {l : List Node} {p : ByteArray} (h : kidsC l p = 0) : ∀ y ∈ l, (parentB y.path).data.toList ≠ p.data.toList := fun y hy e => by
  rw [kidsC, List.countP_eq_zero] at h
  exact h y hy (by simpa using ba_ext e)
theorem file_free {M : PW} (hI : M.Inv) {x : Node} (hx : x ∈ M.nodes) (h0 : 0 ≤ x.file) : ∀ y ∈ M.nodes, (parentB y.path).data.toList ≠ pathL x := fun y hy e => by
  rcases hI.dir y hy with h | ⟨z, hz, h1, h2⟩
  · rw [h] at e
    exact valid_ne (hI.valid x hx) e.symm
  · have : z = x := apart_inj hI.apart hz hx (ba_ext (by rw [show z.path.data.toList = pathL z from rfl, h1, e]))
    subst this
    omega
theorem take_len {M : PW} (hA : Apart M.nodes) {x : Node} (hx : x ∈ M.nodes) : (M.take x).nodes.length + 1 = M.nodes.length := by
  have := count_no (fun _ => true) hA hx
  simp only [List.countP_true, if_true] at this
  simp only [PW.take]
  omega
theorem chmod_len (M : PW) (p : ByteArray) (mode : Int) : (M.chmod p mode).nodes.length = M.nodes.length ∧ (M.chmod p mode).next = M.next := by
  unfold PW.chmod
  split
  · split
    · exact ⟨by simp [chmodN], rfl⟩
    · exact ⟨rfl, rfl⟩
  · exact ⟨rfl, rfl⟩
theorem data_small {M : PW} (hI : M.Inv) (i : Int) : (dataOf M i).size ≤ 8192 := by
  unfold dataOf fileOf
  cases h : M.files.find? fun f => decide (f.id = i) with
  | none => simp
  | some f => exact (hI.fbd f (List.mem_of_find?_eq_some h)).2.2.2
/-- What an instruction makes of a world. -/
theorem inv_do {M : PW} (hI : M.Inv) (hl : M.nodes.length ≤ 256) (c : Cmd) (ds : List ByteArray) : (doM M c ds).Inv ∧ (doM M c ds).nodes.length ≤ 256 ∧ (doM M c ds).next ≤ M.next + 1 := by
  unfold doM
  split
  · rename_i h
    obtain ⟨hE, h9⟩ := h
    unfold doE at hE
    split at hE
    · cases hE
    · rename_i hop
      try rw [if_neg h9] at hE
      split at hE
      · rename_i h1; exact absurd hE h1
      · rename_i hF
        have hF' : firstE (toB c.op) (modeB c.op) c ds = 0 := by omega
        obtain ⟨f1, f2, f3, f4⟩ := first0 hF'
        split at hE
        · exact absurd hE (full_ne _ _)
        · rename_i hg
          have hg2 : growB c.op = true → M.nodes.length < 256 := fun h => by
            rcases Nat.lt_or_ge M.nodes.length 256 with h1 | h1
            · exact h1
            · exact absurd ⟨h, h1⟩ hg
          have hop' : 1 ≤ c.op ∧ c.op ≤ 9 := by simpa [isOp] using hop
          have hk : c.op = 1 ∨ c.op = 2 ∨ c.op = 3 ∨ c.op = 4 ∨ c.op = 5 ∨ c.op = 6 ∨ c.op = 7 ∨ c.op = 8 := by omega
          have okM : modeB c.op = true → okMode c.mode = true := fun h => by have := f1 h; simp [okMode]; omega
          unfold opE at hE
          unfold opM
          rcases hk with e | e | e | e | e | e | e | e
          · rw [e] at hE hg2 okM ⊢
            simp at hE ⊢
            have hn := abs0 hE
            refine ⟨inv_put hI hn f2 (abs_dir hI hE) (.inl ⟨rfl, okM (by decide)⟩), ?_, by simp only [PW.put]; omega⟩
            have := hg2 (by decide)
            simp only [PW.put, List.length_append, List.length_cons, List.length_nil]; omega
          · rw [e] at hE ⊢
            simp at hE ⊢
            unfold PW.takeAt
            split
            · rename_i x hx
              obtain ⟨k1, k2⟩ := pre_vacant hI hE x hx
              obtain ⟨hm, hp⟩ := nodeAt_some hx
              have := take_len hI.apart hm
              exact ⟨inv_take hI hm (fun y hy _ => by have := no_kids k2 y hy; rw [pathL, hp]; exact this), by omega, by simp only [PW.take]; omega⟩
            · exact ⟨hI, hl, by omega⟩
          · rw [e] at hE f3 ⊢
            simp at hE ⊢
            obtain ⟨x, hx, hm, hp, e1, e2, e3, e4, e5, e6⟩ := bothF hI hE
            obtain ⟨b1, b2⟩ := both0 hE
            have hn := abs0 b2
            have hput := inv_put (x := ⟨c.dst, lookF M.nodes c.path, 0, c.hd⟩) hI hn (f3 (by decide)) (abs_dir hI b2) (.inr ⟨by simp only; omega, rfl, by simp only [e1]; exact e5⟩)
            have hm2 : x ∈ (M.put ⟨c.dst, lookF M.nodes c.path, 0, c.hd⟩).nodes := List.mem_append.2 (.inl hm)
            have hat : nodeAt (M.put ⟨c.dst, lookF M.nodes c.path, 0, c.hd⟩).nodes c.path = some x := (nodeAt_iff hput.apart).2 ⟨hm2, hp⟩
            have hlen := take_len hput.apart hm2
            simp only [PW.takeAt, hat]
            refine ⟨inv_take hput hm2 (fun y hy hneg => by omega), ?_, by simp only [PW.take, PW.put]; omega⟩
            have hpl : (M.put ⟨c.dst, lookF M.nodes c.path, 0, c.hd⟩).nodes.length = M.nodes.length + 1 := by simp [PW.put]
            omega
          · rw [e] at hE f3 hg2 ⊢
            simp at hE ⊢
            obtain ⟨x, hx, hm, hp, e1, e2, e3, e4, e5, e6⟩ := bothF hI hE
            obtain ⟨b1, b2⟩ := both0 hE
            have := hg2 (by decide)
            refine ⟨inv_put (x := ⟨c.dst, lookF M.nodes c.path, 0, c.hd⟩) hI (abs0 b2) (f3 (by decide)) (abs_dir hI b2) (.inr ⟨by simp only; omega, rfl, by simp only [e1]; exact e5⟩), ?_, by simp only [PW.put]; omega⟩
            simp only [PW.put, List.length_append, List.length_cons, List.length_nil]; omega
          · rw [e] at hE ⊢
            simp at hE ⊢
            obtain ⟨b1, b2⟩ := fil0 hE
            obtain ⟨x, hx, e1, e2⟩ := pre0 b1
            obtain ⟨hm, hp⟩ := nodeAt_some hx
            have := take_len hI.apart hm
            simp only [PW.takeAt, hx]
            exact ⟨inv_take hI hm (fun y hy hneg => by omega), by omega, by simp only [PW.take]; omega⟩
          · rw [e] at hE hg2 okM f4 ⊢
            simp at hE ⊢
            have := hg2 (by decide)
            refine ⟨inv_made hI (abs0 hE) f2 (abs_dir hI hE) (okM (by decide)) (f4 rfl).2.2, ?_, by simp only [PW.made]; omega⟩
            simp only [PW.made, List.length_append, List.length_cons, List.length_nil]; omega
          · rw [e] at hE f3 hg2 okM ⊢
            simp at hE ⊢
            obtain ⟨b1, b2⟩ := both0 hE
            have := hg2 (by decide)
            refine ⟨inv_made hI (abs0 b2) (f3 (by decide)) (abs_dir hI b2) (okM (by decide)) (data_small hI _), ?_, by simp only [PW.made]; omega⟩
            simp only [PW.made, List.length_append, List.length_cons, List.length_nil]; omega
          · rw [e] at okM ⊢
            simp
            have := chmod_len M c.path c.mode
            exact ⟨inv_chmod hI _ (okM (by decide)), by omega, by omega⟩
  · exact ⟨hI, hl, by omega⟩
end Go.Proofs.Ytanaccoelifcpaa

namespace Go.Proofs.Ytanaccoelifcpaa
open Go.RowKit

/-- A tree that a world was told as. -/
structure ToldAs (M : PW) (base : Nat) (w' : World) (S : List Node) (u : TV) : Prop where
  perm : S.Perm M.nodes
  rises : Rises S
  nodes : u.nodes = S.map (reN (idsL S))
  nn : u.nn = S.length
  fn : u.fn = (idsL S).length
  fl : u.files.length = u.fn
  modes : u.files.map (·.mode) = (idsL S).map (fun i => (M.F i).1)
  own : w'.ownsRow base 46 3 (.slice u.NA u.nn u.nc) u.nn (u.nodes.flatMap Node.list)
  ownF : w'.ownsRow base 49 2 (.slice u.FA u.fn u.fc) u.fn (u.files.flatMap FC.list)
  rows : FRows w' base u.files ((idsL S).map fun i => (M.F i).2)
def zeroTV : TV := ⟨[], [], none, 0, 0, none, 0, 0⟩
/-- What Do says. -/
def DoE (t : TV) (ds : List ByteArray) (c : Cmd) (sd : List ByteArray) : Int := if looseE t = 0 then doE (openM t ds) c sd else looseE t
def DoRes (E : Int) (M' : PW) (w : World) (e : Ending) (w' : World) : Prop :=
  ∃ u : TV, e = .returned (.tuple #[u.val, .int .i64 E]) ∧ (E ≠ 0 → u = zeroTV) ∧ (E = 0 → ∃ S, ToldAs M' w.heap.size w' S u) ∧ Below w.heap.size w w'
theorem ToldAs.store {M : PW} {base : Nat} {w w' : World} {S : List Node} {u : TV} (h : ToldAs M base w S u) {g : Nat} {cs : Array Value} (hb : Blk w g 25 cs) (hg : w.grownBy w' (some g)) : ToldAs M base w' S u :=
  { h with
    own := own_keep h.own fun g o (e : u.NA = _) => hg.block g (own_lt2 (by rw [← e]; exact h.own)).2.1 (fun e2 => hb.ne_row h.own (by decide) (by rw [← e2, e]; rfl))
    ownF := own_keep h.ownF fun g o (e : u.FA = _) => hg.block g (own_lt2 (by rw [← e]; exact h.ownF)).2.1 (fun e2 => hb.ne_row h.ownF (by decide) (by rw [← e2, e]; rfl))
    rows := h.rows.grown hg (fun j f b' hf hb' e2 => by
      have h1 := congrArg List.length h.modes
      have hk2 : j < ((idsL S).map fun i => (M.F i).2).length := by have := (List.getElem?_eq_some_iff.1 hf).1; simp at h1 ⊢; omega
      exact hb.ne_row (h.rows.row j f _ hf (List.getElem?_eq_getElem hk2)).2 (by decide) (by rw [← e2, hb'])) }
theorem ToldAs.base {M : PW} {base base' : Nat} {w : World} {S : List Node} {u : TV} (h : ToldAs M base w S u) (hb : base' ≤ base) : ToldAs M base' w S u :=
  { h with own := own_base h.own hb, ownF := own_base h.ownF hb, rows := h.rows.base hb }
theorem told_of {M : PW} {w w' : World} {e : Ending} (h : TellRes M w e w') : ∃ S u, e = .returned u.val ∧ ToldAs M w.heap.size w' S u ∧ Below w.heap.size w w' := by
  obtain ⟨S, u, h1, h2, h3, h4, h5, h6, h7, h8, h9, h10, h11, h12⟩ := h
  exact ⟨S, u, h3, ⟨h1, h2, h4, h5, h6, h7, h8, h9, h10, h11⟩, h12⟩
end Go.Proofs.Ytanaccoelifcpaa
