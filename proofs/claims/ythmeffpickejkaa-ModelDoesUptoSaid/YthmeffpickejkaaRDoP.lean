/- What shuntref7.Do makes of nodes and files is what an instruction makes of the world. -/
import Derived.Test.YthmeffpickejkaaView
import Derived.Test.YthmeffpickejkaaRMade
namespace Go.Proofs.Ythmeffpickejkaa
open Go.RowKit

/-- A tree of nodes and files is told as a world, if its nodes are the world's, and its files are. -/
structure Agree (t : TV) (ds : List ByteArray) (N : PW) : Prop where
  perm : t.nodes.Perm N.nodes
  next : N.next ≤ t.fn
  F : ∀ x ∈ N.nodes, 0 ≤ x.file → treeF t ds x.file = N.F x.file
theorem canoned_told {t : TV} {ds : List ByteArray} {N : PW} (hA : Agree t ds N) (hI : N.Inv) {base : Nat} {w : World} {S : List Node} {u : TV} (h : Canoned t.nodes (treeF t ds) base w S u) : ToldAs N base w S u := by
  have hp := h.perm.trans hA.perm
  have hF : ∀ i ∈ idsL S, treeF t ds i = N.F i := fun i hi => by
    obtain ⟨h0, x, hx, e⟩ := (idsL_mem S i).1 hi
    rw [← e]; exact hA.F x (hp.mem_iff.1 hx) (by omega)
  have e1 : (idsL S).map (fun i => (treeF t ds i).1) = (idsL S).map (fun i => (N.F i).1) := List.map_congr_left fun i hi => by rw [hF i hi]
  have e2 : (idsL S).map (fun i => (treeF t ds i).2) = (idsL S).map (fun i => (N.F i).2) := List.map_congr_left fun i hi => by rw [hF i hi]
  exact { perm := hp, rises := rises_of_ws h.ws (apart_of_perm hp hI.apart), nodes := h.nodes, nn := h.nn, fn := h.fn, fl := h.fl, modes := h.modes.trans e1, own := h.own, ownF := h.ownF, rows := e2 ▸ h.rows }
theorem form_of_loose {u : TV} (h : LooseP u) : formB u = true := by
  have := loose_of_P h
  rw [looseE_form] at this
  split at this
  · cases this
  · split at this
    · assumption
    · cases this
theorem made_told {t : TV} {ds : List ByteArray} {N : PW} (hA : Agree t ds N) (hI : N.Inv) (hl : N.nodes.length ≤ 256) (hb : boundB t = false) {w : World} {e : Ending} {w' : World} (h : RMadeRes t ds w e w') :
    Below w.heap.size w w' ∧ ∃ (u : TV) (S : List Node), e = .returned (.tuple #[u.val, .int .i64 0]) ∧ ToldAs N w.heap.size w' S u := by
  obtain ⟨hb1, u, E, he, h⟩ := h
  refine ⟨hb1, ?_⟩
  rcases h with ⟨_, _, h | ⟨x, hx, h⟩ | ⟨S, v, w2, h, hf⟩⟩ | ⟨rfl, _, _, S, hC, _⟩
  · rw [hb] at h; cases h
  · exfalso
    have hxN := hA.perm.mem_iff.1 hx
    simp only [badFile, Bool.or_eq_true, decide_eq_true_eq] at h
    rcases hI.kind x hxN with ⟨h1, _⟩ | ⟨h1, _, h2⟩
    · have := hA.next; have := hI.n0; omega
    · obtain ⟨f, hf, e1⟩ := List.mem_map.1 h2
      have := (hI.fbd f hf).2.1
      have := hA.next
      omega
  · have := form_of_loose (told_loose hI hl (canoned_told hA hI h))
    rw [hf] at this; cases this
  · exact ⟨u, S, he, canoned_told hA hI hC⟩
/-- A tree that is too great is refused. -/
theorem made_big {t : TV} {ds : List ByteArray} (hb : boundB t = true) {w : World} {e : Ending} {w' : World} (h : RMadeRes t ds w e w') :
    Below w.heap.size w w' ∧ e = .returned (.tuple #[(⟨[], [], none, 0, 0, none, 0, 0⟩ : TV).val, .int .i64 31]) := by
  obtain ⟨hb1, u, E, he, h⟩ := h
  rcases h with ⟨rfl, rfl, _⟩ | ⟨_, h, _⟩
  · exact ⟨hb1, he⟩
  · rw [hb] at h; cases h
section
variable {t : TV} {ds : List ByteArray}
theorem file_lt {N : PW} (hI : N.Inv) {x : Node} (hx : x ∈ N.nodes) (h0 : 0 ≤ x.file) : x.file < N.next := by
  rcases hI.kind x hx with ⟨h, _⟩ | ⟨_, _, h⟩
  · omega
  · obtain ⟨f, hf, e⟩ := List.mem_map.1 h
    have := (hI.fbd f hf).2.1
    omega
/-- Files as they were. -/
theorem agree_same {t' : TV} {N : PW} (hI : N.Inv) (hp : t'.nodes.Perm N.nodes) (hf : t'.files = t.files) (hn : t'.fn = t.fn) (hN : N.files = (openM t ds).files) (hx : N.next = t.fn) : Agree t' ds N := by
  refine ⟨hp, by rw [hx, hn]; exact Int.le_refl _, fun x hx0 h0 => ?_⟩
  have h1 := file_lt hI hx0 h0
  rw [F_files hN, open_F t ds h0 (by omega)]
  unfold treeF
  rw [hf]
/-- A file without a name goes. -/
theorem agree_take {t' : TV} {N : PW} {j : Int} (hI : N.Inv) (hp : t'.nodes.Perm N.nodes) (hf : t'.files = t.files) (hn : t'.fn = t.fn) (hN : N.files = (openM t ds).files ∨ (N.files = (openM t ds).files.filter (fun f => !decide (f.id = j)) ∧ ∀ x ∈ N.nodes, x.file ≠ j)) (hx : N.next = t.fn) : Agree t' ds N := by
  rcases hN with hN | ⟨hN, hj⟩
  · exact agree_same hI hp hf hn hN hx
  · refine ⟨hp, by rw [hx, hn]; exact Int.le_refl _, fun x hx0 h0 => ?_⟩
    have h1 := file_lt hI hx0 h0
    have e : N.F x.file = (openM t ds).F x.file := by
      unfold PW.F fileOf
      rw [hN, List.find?_filter]
      congr 2
      refine congrArg (fun p => List.find? p _) (funext fun f => ?_)
      by_cases h : f.id = x.file
      · have : f.id ≠ j := by rw [h]; exact hj x hx0
        simp [h, hj x hx0]
      · simp [h]
    rw [e, open_F t ds h0 (by omega)]
    unfold treeF
    rw [hf]
/-- A file more. -/
theorem agree_made {t' : TV} {ds' : List ByteArray} {N : PW} {f : FC} {d : ByteArray} {mode : Int} (hfl : t.files.length = t.fn) (hdl : ds.length = t.fn) (hI : N.Inv) (hp : t'.nodes.Perm N.nodes) (hf : t'.files = t.files ++ [f]) (hfm : f.mode = mode) (hds : ds' = ds ++ [d]) (hn : t'.fn = t.fn + 1) (hN : N.files = (openM t ds).files ++ [⟨(t.fn : Int), mode, d⟩]) (hx : N.next = t.fn + 1) : Agree t' ds' N := by
  refine ⟨hp, by rw [hx, hn]; omega, fun x hx0 h0 => ?_⟩
  have h1 := file_lt hI hx0 h0
  rw [hx] at h1
  obtain ⟨i, hi⟩ := Int.eq_ofNat_of_zero_le h0
  rw [hi] at h1 ⊢
  by_cases hl : i < t.fn
  · have e : N.F (i : Int) = (openM t ds).F (i : Int) := by
      unfold PW.F fileOf
      rw [hN, List.find?_append]
      have : ((⟨(t.fn : Int), mode, d⟩ : PF).id = (i : Int)) = False := by simp; omega
      cases h : List.find? (fun f : PF => decide (f.id = (i : Int))) (openM t ds).files
      · have h9 : ¬ (t.fn : Int) = (i : Int) := by omega
        simp [h9]
      · rfl
    rw [e, open_F t ds (by omega) (by omega)]
    unfold treeF
    rw [hf, hds, Int.toNat_natCast, List.getElem?_append_left (by omega), List.getElem?_append_left (by omega)]
  · obtain rfl : i = t.fn := by omega
    have e : N.F (t.fn : Int) = (mode, d) := by
      unfold PW.F fileOf
      rw [hN, List.find?_append]
      have : List.find? (fun f : PF => decide (f.id = (t.fn : Int))) (openM t ds).files = none := by
        rw [List.find?_eq_none]
        intro y hy
        have : y ∈ filesP t ds t.fn := hy
        unfold filesP at this
        obtain ⟨k, hk, rfl⟩ := List.mem_map.1 this
        have := List.mem_range.1 hk
        simp; omega
      rw [this]; simp
    rw [e]
    unfold treeF
    rw [hf, hds, Int.toNat_natCast, ← hfl, List.getElem?_append_right (Nat.le_refl _), List.getElem?_append_right (by omega), hdl, hfl, Nat.sub_self]
    simp [hfm]
/-- A file's mode turned. -/
theorem agree_chmod {t' : TV} {N : PW} {k : Nat} {f : FC} {mode : Int} (hk : t.files[k]? = some f) (hfl : t.files.length = t.fn) (hI : N.Inv) (hp : t'.nodes.Perm N.nodes) (hf : t'.files = t.files.set k ⟨mode, f.A, f.n, f.c⟩) (hn : t'.fn = t.fn) (hN : N.files = chmodF (openM t ds).files (k : Int) mode) (hx : N.next = t.fn) : Agree t' ds N := by
  refine ⟨hp, by rw [hx, hn]; exact Int.le_refl _, fun x hx0 h0 => ?_⟩
  have h1 := file_lt hI hx0 h0
  rw [hx] at h1
  obtain ⟨i, hi⟩ := Int.eq_ofNat_of_zero_le h0
  rw [hi] at h1 ⊢
  have e0 := open_F t ds (i := (i : Int)) (by omega) (by omega)
  have e : N.F (i : Int) = if i = k then (mode, ((openM t ds).F (i : Int)).2) else (openM t ds).F (i : Int) := by
    unfold PW.F fileOf
    rw [hN]
    unfold chmodF
    rw [List.find?_map]
    have hc : ((fun f : PF => decide (f.id = (i : Int))) ∘ fun f : PF => if f.id = (k : Int) then { f with mode := mode } else f) = fun f : PF => decide (f.id = (i : Int)) := by
      funext f
      simp only [Function.comp]
      split <;> rfl
    rw [hc]
    have hmem : ∃ g, List.find? (fun f : PF => decide (f.id = (i : Int))) (openM t ds).files = some g := by
      cases h : List.find? (fun f : PF => decide (f.id = (i : Int))) (openM t ds).files with
      | some g => exact ⟨g, rfl⟩
      | none =>
        exfalso
        rw [List.find?_eq_none] at h
        have : (⟨(i : Int), (treeF t ds i).1, (treeF t ds i).2⟩ : PF) ∈ (openM t ds).files := by
          show _ ∈ filesP t ds t.fn
          unfold filesP
          exact List.mem_map.2 ⟨i, List.mem_range.2 (by omega), rfl⟩
        exact h _ this (by simp)
    obtain ⟨g, hg⟩ := hmem
    have hgi : g.id = (i : Int) := by simpa using List.find?_some hg
    rw [hg]
    by_cases h : i = k
    · subst h; simp [hgi]
    · simp only [Option.map_some, Option.getD_some, hgi, if_neg h, if_neg (show ¬ ((i : Int) = (k : Int)) by omega)]
  rw [e, e0]
  unfold treeF
  rw [hf, Int.toNat_natCast, List.getElem?_set]
  by_cases h : i = k
  · subst h
    rw [if_pos rfl, if_pos (by omega), if_pos rfl]; rfl
  · rw [if_neg (fun h2 => h h2.symm), if_neg h]
end
end Go.Proofs.Ythmeffpickejkaa
