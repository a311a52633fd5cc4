/- A loose tree whose nodes are turned round and whose files are numbered anew is put in order as itself. -/
import Derived.Test.YtdjlchbgdehccaaCanonL
namespace Go.Proofs.Ytdjlchbgdehccaa
open Go.RowKit

/-- A node whose file has another number. -/
def turnN (g : Int → Int) (x : Node) : Node := if x.file < 0 then x else ⟨x.path, g x.file, x.mode, x.hp⟩
theorem turnN_path (g : Int → Int) (x : Node) : (turnN g x).path = x.path := by unfold turnN; split <;> rfl
theorem turn_id (l : List Node) : l.map (turnN fun i => i) = l := by
  conv => rhs; rw [← List.map_id l]
  refine List.map_congr_left fun x _ => ?_
  unfold turnN
  split <;> rfl
theorem turn_rises {g : Int → Int} {l : List Node} (h : Rises l) : Rises (l.map (turnN g)) := by
  unfold Rises
  rw [List.pairwise_map]
  exact h.imp fun {a b} hab => by unfold pathL; rw [turnN_path, turnN_path]; exact hab
theorem ws_of_rises {l : List Node} (h : Rises l) : WS l := h.imp fun hab e => lt_irr _ (lt_tr hab e)
/-- The new numbers up to k. -/
def numsL (g : Int → Int) (k : Nat) : List Int := (List.range k).map fun (i : Nat) => g (i : Int)
theorem numsL_succ (g : Int → Int) (k : Nat) : numsL g (k + 1) = numsL g k ++ [g k] := by simp [numsL, List.range_succ]
theorem numsL_len (g : Int → Int) (k : Nat) : (numsL g k).length = k := by simp [numsL]
theorem numsL_get {g : Int → Int} {k i : Nat} (h : i < k) : (numsL g k)[i]? = some (g i) := by simp [numsL, h]
theorem mem_numsL {g : Int → Int} {k : Nat} {i : Int} : i ∈ numsL g k ↔ ∃ j : Nat, j < k ∧ g j = i := by simp [numsL]
theorem idx_nums {g : Int → Int} {k j : Nat} (hg : ∀ i i' : Nat, i < k → i' < k → g i = g i' → i = i') (hj : j < k) : (numsL g k).idxOf (g j) = j := by
  have hm : g j ∈ numsL g k := mem_numsL.2 ⟨j, hj, rfl⟩
  have hl : (numsL g k).idxOf (g j) < (numsL g k).length := List.idxOf_lt_length_of_mem hm
  have he := List.getElem_idxOf hl
  have hl' : (numsL g k).idxOf (g j) < k := by rwa [numsL_len] at hl
  have h2 := numsL_get (g := g) hl'
  rw [List.getElem?_eq_getElem hl, he] at h2
  injection h2 with h2
  exact (hg _ _ hj hl' h2).symm
theorem fold_turn (g : Int → Int) (l : List Node) (fn : Nat) (hp : ∀ i : Nat, i < fn → 0 ≤ g i) (hg : ∀ i i' : Nat, i < fn → i' < fn → g i = g i' → i = i') :
    ∀ (rest : List Node) (prev : Option ByteArray) (k : Nat) (r : Int), formRun l fn rest prev k = some r → k ≤ fn →
      ∃ k' : Nat, r = k' ∧ k' ≤ fn ∧ (rest.map (turnN g)).foldl idStep (numsL g k) = numsL g k' ∧ ∀ x ∈ rest, x.file = -1 ∨ (0 ≤ x.file ∧ x.file < fn)
  | [], prev, k, r, h, hk => by
    rw [formRun] at h
    injection h with h
    exact ⟨k, h.symm, hk, rfl, fun x hx => by cases hx⟩
  | x :: t, prev, k, r, h, hk => by
    rw [formRun] at h
    split at h
    · cases h
    · split at h
      · cases h
      · split at h
        · rename_i h1
          split at h
          · obtain ⟨k', e1, e2, e3, e4⟩ := fold_turn g l fn hp hg t _ k r h hk
            refine ⟨k', e1, e2, ?_, fun y hy => ?_⟩
            · rw [List.map_cons, List.foldl_cons]
              have : idStep (numsL g k) (turnN g x) = numsL g k := by
                unfold idStep turnN
                rw [if_pos (show x.file < 0 by omega), if_pos (.inl (by omega))]
              rw [this]; exact e3
            · rcases List.mem_cons.1 hy with rfl | hy
              · exact .inl h1
              · exact e4 y hy
          · cases h
        · rename_i h1
          split at h
          · cases h
          · rename_i h2
            simp only [fileBad, Bool.not_eq_true, Bool.or_eq_false_iff, bne_eq_false_iff_eq, decide_eq_false_iff_not] at h2
            obtain ⟨⟨⟨h3, h4⟩, h5⟩, h6⟩ := h2
            obtain ⟨f, hf⟩ := Int.eq_ofNat_of_zero_le (show 0 ≤ x.file by omega)
            have hff : f < fn := by omega
            have hx : turnN g x = ⟨x.path, g f, x.mode, x.hp⟩ := by
              unfold turnN
              rw [if_neg h4, hf]
            have hgf := hp f hff
            by_cases e : x.file = k
            · rw [if_pos e] at h
              have hfk : f = k := by omega
              have h' : formRun l fn t (some x.path) ((k + 1 : Nat) : Int) = some r := by rw [Int.natCast_add]; exact h
              obtain ⟨k', e1, e2, e3, e4⟩ := fold_turn g l fn hp hg t _ (k + 1) r h' (by omega)
              refine ⟨k', e1, e2, ?_, fun y hy => ?_⟩
              · rw [List.map_cons, List.foldl_cons]
                have : idStep (numsL g k) (turnN g x) = numsL g (k + 1) := by
                  rw [hx]
                  unfold idStep
                  rw [if_neg, numsL_succ, hfk]
                  rintro (h7 | h7)
                  · simp only at h7; omega
                  · simp only at h7
                    obtain ⟨j, hj, ej⟩ := mem_numsL.1 h7
                    have := hg j f (by omega) hff ej
                    omega
                rw [this]; exact e3
              · rcases List.mem_cons.1 hy with rfl | hy
                · exact .inr ⟨by omega, by omega⟩
                · exact e4 y hy
            · rw [if_neg e] at h
              obtain ⟨k', e1, e2, e3, e4⟩ := fold_turn g l fn hp hg t _ k r h hk
              refine ⟨k', e1, e2, ?_, fun y hy => ?_⟩
              · rw [List.map_cons, List.foldl_cons]
                have : idStep (numsL g k) (turnN g x) = numsL g k := by
                  rw [hx]
                  unfold idStep
                  rw [if_pos]
                  exact .inr (mem_numsL.2 ⟨f, by omega, rfl⟩)
                rw [this]; exact e3
              · rcases List.mem_cons.1 hy with rfl | hy
                · exact .inr ⟨by omega, by omega⟩
                · exact e4 y hy
/-- A loose tree, its nodes in any order and its files under other numbers, is put in order as itself. -/
theorem canon_self {t : TV} {ds : List ByteArray} {g : Int → Int} {l : List Node} {F : Int → Int × ByteArray} {base : Nat} {w : World} {S : List Node} {v : TV} (hf : formB t = true) (hnl : t.nodes.length = t.nn) (hfl : t.files.length = t.fn) (hdl : ds.length = t.files.length)
    (hl : l.Perm (t.nodes.map (turnN g))) (hp : ∀ i : Nat, i < t.fn → 0 ≤ g i) (hg : ∀ i i' : Nat, i < t.fn → i' < t.fn → g i = g i' → i = i') (hF : ∀ i : Nat, i < t.fn → F (g i) = treeF t ds i)
    (h : Canoned l F base w S v) : exactB v t ((idsL S).map fun i => (F i).2) ds = true ∧ formB v = true ∧ v.fn = t.fn ∧ v.nn = t.nn := by
  have hR : Rises t.nodes ∧ ∃ k' : Nat, k' = t.fn ∧ ((t.nodes.map (turnN g)).foldl idStep [] = numsL g k') ∧ ∀ x ∈ t.nodes, x.file = -1 ∨ (0 ≤ x.file ∧ x.file < t.fn) := by
    have hf' := hf
    unfold formB at hf'
    split at hf'
    · rename_i r hr
      rw [Bool.and_eq_true, decide_eq_true_eq] at hf'
      obtain ⟨k', e1, _, e3, e4⟩ := fold_turn g t.nodes t.fn hp hg t.nodes none 0 r hr (Nat.zero_le _)
      exact ⟨(form_rises _ _ _ _ _ _ hr).1, k', by omega, e3, e4⟩
    · cases hf'
  obtain ⟨hR, k', rfl, hids, hk⟩ := hR
  have hRm := turn_rises (g := g) hR
  have hS : S = t.nodes.map (turnN g) := ws_eq h.perm hl.symm h.ws (ws_of_rises hRm) (apart_of_perm hl (apart_of_rises hRm))
  have hI : idsL S = numsL g t.fn := by rw [hS]; exact hids
  have hN : v.nodes = t.nodes := by
    rw [h.nodes, hI, hS, List.map_map]
    conv => rhs; rw [← List.map_id t.nodes]
    refine List.map_congr_left fun x hx => ?_
    show reN _ (turnN g x) = x
    rcases hk x hx with e | ⟨e1, e2⟩
    · unfold turnN reN
      rw [if_pos (show x.file < 0 by omega), if_pos (show x.file < 0 by omega)]
    · obtain ⟨f, hff⟩ := Int.eq_ofNat_of_zero_le e1
      have hfl : f < t.fn := by omega
      have e3 : turnN g x = ⟨x.path, g f, x.mode, x.hp⟩ := by unfold turnN; rw [if_neg (by omega), hff]
      rw [e3]
      unfold reN
      have h0 := hp f hfl
      rw [if_neg (by show ¬ g f < 0; omega)]
      show (⟨x.path, ((numsL g t.fn).idxOf (g f) : Nat), x.mode, _⟩ : Node) = x
      obtain ⟨a, b, c, d⟩ := x
      have hb : (((numsL g t.fn).idxOf (g f) : Nat) : Int) = b := by rw [idx_nums hg hfl]; exact hff.symm
      simp only [hb]
  have hlen : (idsL S).length = t.fn := by rw [hI, numsL_len]
  have hM : v.files.map (·.mode) = t.files.map (·.mode) := by
    rw [h.modes, hI]
    apply List.ext_getElem?
    intro i
    rw [List.getElem?_map, List.getElem?_map]
    by_cases hi : i < t.fn
    · rw [numsL_get hi, Option.map_some, hF i hi]
      obtain ⟨f, hff⟩ : ∃ f, t.files[i]? = some f := ⟨_, List.getElem?_eq_getElem (by omega)⟩
      rw [hff]
      simp [treeF, hff]
    · rw [List.getElem?_eq_none (by rw [numsL_len]; omega), List.getElem?_eq_none (by omega)]; rfl
  have hD : (idsL S).map (fun i => (F i).2) = ds := by
    rw [hI]
    apply List.ext_getElem?
    intro i
    rw [List.getElem?_map]
    by_cases hi : i < t.fn
    · rw [numsL_get hi, Option.map_some, hF i hi]
      obtain ⟨d, hd⟩ : ∃ d, ds[i]? = some d := ⟨_, List.getElem?_eq_getElem (by omega)⟩
      rw [hd]
      simp [treeF, hd]
    · rw [List.getElem?_eq_none (by rw [numsL_len]; omega), List.getElem?_eq_none (by omega)]; rfl
  have hfn : v.fn = t.fn := by rw [h.fn, hlen]
  exact ⟨by simp [exactB, hN, hM, hD], by rw [← hf]; exact formB_congr hN (by rw [hfn]) hM, hfn, by rw [h.nn, ← hnl, hS, List.length_map]⟩
theorem formB_of_loose {t : TV} (h : looseE t = 0) : formB t = true ∧ boundB t = false := by
  rw [looseE_form] at h
  split at h
  · cases h
  · rename_i hb
    split at h
    · rename_i hf
      exact ⟨hf, by simpa using hb⟩
    · cases h
theorem cout_self {t u : TV} {ds ds' : List ByteArray} {g : Int → Int} {E : Int} {v : TV} {es : List ByteArray} {W : World} (hl : looseE t = 0) (hnl : t.nodes.length = t.nn) (hfl : t.files.length = t.fn) (hdl : ds.length = t.files.length)
    (hP : u.nodes.Perm (t.nodes.map (turnN g))) (hun : u.nn ≤ 256) (huf : u.fn ≤ 256) (hsm : ∀ x ∈ u.files, x.n ≤ 8192) (hbad : ∀ x ∈ u.nodes, badFile u.fn x = false)
    (hp : ∀ i : Nat, i < t.fn → 0 ≤ g i) (hg : ∀ i i' : Nat, i < t.fn → i' < t.fn → g i = g i' → i = i') (hF : ∀ i : Nat, i < t.fn → treeF u ds' (g i) = treeF t ds i)
    (hT : TreeD W u ds') (h : COut u ds' E v es) : E = 0 ∧ exactB v t es ds = true ∧ looseE v = 0 := by
  have hf := (formB_of_loose hl).1
  have hbu : boundB u = false := by
    unfold boundB anyLong
    simp only [Bool.or_eq_false_iff, decide_eq_false_iff_not, List.any_eq_false, decide_eq_true_eq]
    exact ⟨⟨by omega, by omega⟩, fun x hx => by have := hsm x hx; omega⟩
  rcases h with ⟨_, h2, _⟩ | ⟨_, _, _, _, h3⟩ | ⟨h1, _, _, S, w2, b2, h4, h5, h6⟩
  · rw [hbu] at h2; cases h2
  · exfalso
    rcases h3 with ⟨x, hx, he⟩ | ⟨S, v2, w2, b2, hc, hf2⟩
    · rw [hbad x hx] at he; cases he
    · have := (canon_self hf hnl hfl hdl hP hp hg hF hc).2.1
      rw [hf2] at this; cases this
  · obtain ⟨k1, k2, k3, k4⟩ := canon_self hf hnl hfl hdl hP hp hg hF h4
    have hbv := canoned_bound hT hbu hbad h4
    exact ⟨h1, by rw [h6]; exact k1, by rw [looseE_form, hbv, k2]; rfl⟩
end Go.Proofs.Ytdjlchbgdehccaa
