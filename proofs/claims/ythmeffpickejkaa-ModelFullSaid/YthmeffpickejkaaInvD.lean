/- A loose tree's world, and every world that instructions make of it, hold to what a world holds to. -/
import Derived.Test.YthmeffpickejkaaInvP
namespace Go.Proofs.Ythmeffpickejkaa
open Go.RowKit

theorem inv_open {t : TV} {ds : List ByteArray} (h : Good t) (hfl : t.files.length = t.fn) (hdl : ds.length = t.files.length) (hdz : ∀ (k : Nat) (x : FC) (d : ByteArray), t.files[k]? = some x → ds[k]? = some d → d.size = x.n) : (openM t ds).Inv := by
  refine ⟨apart_of_rises h.rises, h.valid, h.dir, fun x hx => ?_, ?_, fun f hf => ?_, fun f hf => ?_, Int.natCast_nonneg _⟩
  · refine (h.kind x hx).imp id fun ⟨a, b, c⟩ => ⟨a, c, ?_⟩
    show x.file ∈ (filesP t ds t.fn).map (·.id)
    rw [filesP_ids]
    exact List.mem_map.2 ⟨x.file.toNat, List.mem_range.2 (by omega), by omega⟩
  · show ((filesP t ds t.fn).map (·.id)).Nodup
    rw [filesP_ids, List.Nodup, List.pairwise_map]
    exact List.nodup_range.imp fun hne e => hne (by omega)
  · obtain ⟨i, hi, rfl⟩ := List.mem_map.1 hf
    have := List.mem_range.1 hi
    exact h.hit i (by omega) (by omega)
  · obtain ⟨i, hi, rfl⟩ := List.mem_map.1 hf
    have hlt := List.mem_range.1 hi
    have hx : t.files[i]? = some (t.files[i]'(by omega)) := List.getElem?_eq_getElem _
    have hd : ds[i]? = some (ds[i]'(by omega)) := List.getElem?_eq_getElem _
    simp only [treeF_at hx hd]
    refine ⟨by omega, ?_, h.modes _ (List.mem_of_getElem? hx), ?_⟩
    · show (i : Int) < t.fn; omega
    · rw [hdz i _ _ hx hd]; exact h.small _ (List.mem_of_getElem? hx)
theorem pre_vacant {M : PW} (hI : M.Inv) {p : ByteArray} (h : rmE M p = 0) : ∀ x, nodeAt M.nodes p = some x → x.file = -1 ∧ kidsC M.nodes p = 0 := fun x hx => by
  unfold rmE at h
  split at h
  · rename_i h1; exact absurd h h1
  · rename_i h1
    obtain ⟨y, hy, e1, _⟩ := pre0 (l := M.nodes) (p := p) (by omega)
    rw [hx] at hy
    injection hy with hy
    subst hy
    split at h
    · cases h
    · rename_i h2
      split at h
      · cases h
      · rename_i h3
        have hm := (nodeAt_some hx).1
        refine ⟨?_, by omega⟩
        rcases hI.kind x hm with k | k <;> omega
theorem no_kids {l : List Node} {p : ByteArray} (h : kidsC l p = 0) : ∀ y ∈ l, (parentB y.path).data.toList ≠ p.data.toList := fun y hy e => by
  rw [kidsC, List.countP_eq_zero] at h
  exact h y hy (by simpa using ba_ext e)
theorem file_free {M : PW} (hI : M.Inv) {x : Node} (hx : x ∈ M.nodes) (h0 : 0 ≤ x.file) : ∀ y ∈ M.nodes, (parentB y.path).data.toList ≠ pathL x := fun y hy e => by
  rcases hI.dir y hy with h | ⟨z, hz, h1, h2⟩
  · rw [h] at e
    exact valid_ne (hI.valid x hx) e.symm
  · have : z = x := apart_inj hI.apart hz hx (ba_ext (by rw [show z.path.data.toList = pathL z from rfl, h1, e]))
    subst this
    omega
theorem take_len {M : PW} (hA : Apart M.nodes) {x : Node} (hx : x ∈ M.nodes) : (M.take x).nodes.length + 1 = M.nodes.length := by
  have := count_no (fun _ => true) hA hx
  simp only [List.countP_true, if_true] at this
  simp only [PW.take]
  omega
theorem chmod_len (M : PW) (p : ByteArray) (mode : Int) : (M.chmod p mode).nodes.length = M.nodes.length ∧ (M.chmod p mode).next = M.next := by
  unfold PW.chmod
  split
  · split
    · exact ⟨by simp [chmodN], rfl⟩
    · exact ⟨rfl, rfl⟩
  · exact ⟨rfl, rfl⟩
theorem data_small {M : PW} (hI : M.Inv) (i : Int) : (dataOf M i).size ≤ 8192 := by
  unfold dataOf fileOf
  cases h : M.files.find? fun f => decide (f.id = i) with
  | none => simp
  | some f => exact (hI.fbd f (List.mem_of_find?_eq_some h)).2.2.2
/-- What an instruction makes of a world. -/
theorem inv_do {M : PW} (hI : M.Inv) (hl : M.nodes.length ≤ 256) (c : Cmd) (ds : List ByteArray) : (doM M c ds).Inv ∧ (doM M c ds).nodes.length ≤ 256 ∧ (doM M c ds).next ≤ M.next + 1 := by
  unfold doM
  split
  · rename_i h
    obtain ⟨hE, h9⟩ := h
    unfold doE at hE
    split at hE
    · cases hE
    · rename_i hop
      try rw [if_neg h9] at hE
      split at hE
      · rename_i h1; exact absurd hE h1
      · rename_i hF
        have hF' : firstE (toB c.op) (modeB c.op) c ds = 0 := by omega
        obtain ⟨f1, f2, f3, f4⟩ := first0 hF'
        split at hE
        · exact absurd hE (full_ne _ _)
        · rename_i hg
          have hg2 : growB c.op = true → M.nodes.length < 256 := fun h => by
            rcases Nat.lt_or_ge M.nodes.length 256 with h1 | h1
            · exact h1
            · exact absurd ⟨h, h1⟩ hg
          have hop' : 1 ≤ c.op ∧ c.op ≤ 9 := by simpa [isOp] using hop
          have hk : c.op = 1 ∨ c.op = 2 ∨ c.op = 3 ∨ c.op = 4 ∨ c.op = 5 ∨ c.op = 6 ∨ c.op = 7 ∨ c.op = 8 := by omega
          have okM : modeB c.op = true → okMode c.mode = true := fun h => by have := f1 h; simp [okMode]; omega
          unfold opE at hE
          unfold opM
          rcases hk with e | e | e | e | e | e | e | e
          · rw [e] at hE hg2 okM ⊢
            simp at hE ⊢
            have hn := abs0 hE
            refine ⟨inv_put hI hn f2 (abs_dir hI hE) (.inl ⟨rfl, okM (by decide)⟩), ?_, by simp only [PW.put]; omega⟩
            have := hg2 (by decide)
            simp only [PW.put, List.length_append, List.length_cons, List.length_nil]; omega
          · rw [e] at hE ⊢
            simp at hE ⊢
            unfold PW.takeAt
            split
            · rename_i x hx
              obtain ⟨k1, k2⟩ := pre_vacant hI hE x hx
              obtain ⟨hm, hp⟩ := nodeAt_some hx
              have := take_len hI.apart hm
              exact ⟨inv_take hI hm (fun y hy _ => by have := no_kids k2 y hy; rw [pathL, hp]; exact this), by omega, by simp only [PW.take]; omega⟩
            · exact ⟨hI, hl, by omega⟩
          · rw [e] at hE f3 ⊢
            simp at hE ⊢
            obtain ⟨x, hx, hm, hp, e1, e2, e3, e4, e5, e6⟩ := bothF hI hE
            obtain ⟨b1, b2⟩ := both0 hE
            have hn := abs0 b2
            have hput := inv_put (x := ⟨c.dst, lookF M.nodes c.path, 0, c.hd⟩) hI hn (f3 (by decide)) (abs_dir hI b2) (.inr ⟨by simp only; omega, rfl, by simp only [e1]; exact e5⟩)
            have hm2 : x ∈ (M.put ⟨c.dst, lookF M.nodes c.path, 0, c.hd⟩).nodes := List.mem_append.2 (.inl hm)
            have hat : nodeAt (M.put ⟨c.dst, lookF M.nodes c.path, 0, c.hd⟩).nodes c.path = some x := (nodeAt_iff hput.apart).2 ⟨hm2, hp⟩
            have hlen := take_len hput.apart hm2
            simp only [PW.takeAt, hat]
            refine ⟨inv_take hput hm2 (fun y hy hneg => by omega), ?_, by simp only [PW.take, PW.put]; omega⟩
            have hpl : (M.put ⟨c.dst, lookF M.nodes c.path, 0, c.hd⟩).nodes.length = M.nodes.length + 1 := by simp [PW.put]
            omega
          · rw [e] at hE f3 hg2 ⊢
            simp at hE ⊢
            obtain ⟨x, hx, hm, hp, e1, e2, e3, e4, e5, e6⟩ := bothF hI hE
            obtain ⟨b1, b2⟩ := both0 hE
            have := hg2 (by decide)
            refine ⟨inv_put (x := ⟨c.dst, lookF M.nodes c.path, 0, c.hd⟩) hI (abs0 b2) (f3 (by decide)) (abs_dir hI b2) (.inr ⟨by simp only; omega, rfl, by simp only [e1]; exact e5⟩), ?_, by simp only [PW.put]; omega⟩
            simp only [PW.put, List.length_append, List.length_cons, List.length_nil]; omega
          · rw [e] at hE ⊢
            simp at hE ⊢
            obtain ⟨b1, b2⟩ := fil0 hE
            obtain ⟨x, hx, e1, e2⟩ := pre0 b1
            obtain ⟨hm, hp⟩ := nodeAt_some hx
            have := take_len hI.apart hm
            simp only [PW.takeAt, hx]
            exact ⟨inv_take hI hm (fun y hy hneg => by omega), by omega, by simp only [PW.take]; omega⟩
          · rw [e] at hE hg2 okM f4 ⊢
            simp at hE ⊢
            have := hg2 (by decide)
            refine ⟨inv_made hI (abs0 hE) f2 (abs_dir hI hE) (okM (by decide)) (f4 rfl).2.2, ?_, by simp only [PW.made]; omega⟩
            simp only [PW.made, List.length_append, List.length_cons, List.length_nil]; omega
          · rw [e] at hE f3 hg2 okM ⊢
            simp at hE ⊢
            obtain ⟨b1, b2⟩ := both0 hE
            have := hg2 (by decide)
            refine ⟨inv_made hI (abs0 b2) (f3 (by decide)) (abs_dir hI b2) (okM (by decide)) (data_small hI _), ?_, by simp only [PW.made]; omega⟩
            simp only [PW.made, List.length_append, List.length_cons, List.length_nil]; omega
          · rw [e] at okM ⊢
            simp
            have := chmod_len M c.path c.mode
            exact ⟨inv_chmod hI _ (okM (by decide)), by omega, by omega⟩
  · exact ⟨hI, hl, by omega⟩
end Go.Proofs.Ythmeffpickejkaa
