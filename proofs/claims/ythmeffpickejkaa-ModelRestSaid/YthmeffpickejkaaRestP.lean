/- What is at a path that an instruction does not name stays. -/
import Derived.Test.YthmeffpickejkaaSwapP
import Derived.Test.YthmeffpickejkaaUndoP
namespace Go.Proofs.Ythmeffpickejkaa
open Go.RowKit

/-- A node that is not named, and the told tree's node at its path. -/
structure Kept2 (c : Cmd) (t : TV) (ds : List ByteArray) (u : TV) (es : List ByteArray) (x : Node) (k : Nat) (y : Node) : Prop where
  find : findI u.nodes x.path = k
  at_ : u.nodes[k]? = some y
  path : y.path = x.path
  dir : y.file = -1 ↔ x.file = -1
  mode : y.mode = x.mode
  rx : x.file ≠ -1 → 0 ≤ x.file ∧ x.file < t.fn
  ry : x.file ≠ -1 → 0 ≤ y.file ∧ y.file < u.fn
  data : x.file ≠ -1 → (treeF u es y.file).2 = (treeF t ds x.file).2
  fmode : x.file ≠ -1 → c.op ≠ 8 → (treeF u es y.file).1 = (treeF t ds x.file).1
theorem rest_node {t : TV} {ds : List ByteArray} {w : World} (hT : TreeD w t ds) {c : Cmd} {sd : List ByteArray} (h : DoE t ds c sd = 0) {u : TV} {es : List ByteArray} (hu : TellsM (doW t ds c sd) u es) {x : Node} (hx : x ∈ t.nodes) (hc : ¬ c.at x.path) : ∃ k y, Kept2 c t ds u es x k y := by
  obtain ⟨hl, h0⟩ := doE_loose h
  have hM := open_ok hT hl
  have hW : doW t ds c sd = doM (openM t ds) c sd := by unfold doW; rw [if_pos h]
  rw [hW] at hu
  have hN := hM.do c sd
  obtain ⟨b, w2, S, hS, rfl⟩ := hu
  have hvw := vw_do hM.inv h0
  have hLu := told_loose hN.inv hN.len hS
  have hLt := looseP_of hl
  have hk := told_kind hN.inv hS x.path
  have hNk : kindL (doM (openM t ds) c sd).nodes (doM (openM t ds) c sd).F x.path = (vDo (openM t ds).vw c sd).k x.path := by rw [← hvw]; rfl
  have hVk : (openM t ds).vw.k x.path = some (kdOf (treeF t ds) x) := by
    show kindL (openM t ds).nodes (openM t ds).F x.path = _
    rw [open_kind hLt.good, kindL, nodeAt_mem (apart_of_rises hLt.good.rises) hx]
    rfl
  rw [hNk] at hk
  have away := vDo_away (openM t ds).vw c sd hc
  rw [hVk] at away
  obtain ⟨K, hK, hKs⟩ : ∃ K, (vDo (openM t ds).vw c sd).k x.path = some K ∧ (K = kdOf (treeF t ds) x ∨ ((openM t ds).vw.s c.path x.path = true ∧ c.op = 8 ∧ K = kdMode c.mode (kdOf (treeF t ds) x))) := by
    by_cases h8 : c.op = 8
    · rcases away.2 with e | ⟨e1, e2⟩
      · exact ⟨_, e, .inl rfl⟩
      · exact ⟨_, e2, .inr ⟨e1, h8, rfl⟩⟩
    · exact ⟨_, away.1 h8, .inl rfl⟩
  rw [hK] at hk
  cases hy : nodeAt u.nodes x.path with
  | none => rw [kindL, hy] at hk; cases hk
  | some y =>
    rw [kindL, hy] at hk
    simp only [Option.map_some, Option.some.injEq] at hk
    obtain ⟨hym, hyp⟩ := nodeAt_some hy
    obtain ⟨k, hky⟩ := List.getElem?_of_mem hym
    have hf := find_here hLu.good.rises hky
    rw [hyp] at hf
    rcases hLt.good.kind x hx with ⟨a1, a2⟩ | ⟨a1, a2, a3⟩
    · have e : kdOf (treeF t ds) x = .dir x.mode := by unfold kdOf; rw [if_pos (by omega)]
      have hKd : K = .dir x.mode := by
        rcases hKs with rfl | ⟨hs, _, _⟩
        · exact e
        · have hs : sB t.nodes c.path x.path = true := hs
          obtain ⟨z, hz, z2, hz2, _, e2, h0, e3⟩ := (sB_iff (apart_of_rises hLt.good.rises)).1 hs
          have := apart_inj (apart_of_rises hLt.good.rises) hz2 hx e2
          subst this
          omega
      rw [hKd] at hk
      rcases hLu.good.kind y hym with ⟨b1, b2⟩ | ⟨b1, b2, b3⟩
      · unfold kdOf at hk
        rw [if_pos (by omega)] at hk
        injection hk with hk
        exact ⟨k, y, hf, hky, hyp, by omega, hk, fun h => absurd a1 h, fun h => absurd a1 h, fun h => absurd a1 h, fun h => absurd a1 h⟩
      · unfold kdOf at hk
        rw [if_neg (by omega)] at hk
        cases hk
    · have e : kdOf (treeF t ds) x = .file (treeF t ds x.file).1 (treeF t ds x.file).2 := by unfold kdOf; rw [if_neg (by omega)]
      have hKd : ∃ m, K = .file m (treeF t ds x.file).2 ∧ (c.op ≠ 8 → m = (treeF t ds x.file).1) := by
        rcases hKs with rfl | ⟨_, h8, rfl⟩
        · exact ⟨_, e, fun _ => rfl⟩
        · exact ⟨c.mode, by rw [e]; rfl, fun h => absurd h8 h⟩
      obtain ⟨m, hKm, hm⟩ := hKd
      rw [hKm] at hk
      rcases hLu.good.kind y hym with ⟨b1, b2⟩ | ⟨b1, b2, b3⟩
      · unfold kdOf at hk
        rw [if_pos (by omega)] at hk
        cases hk
      · unfold kdOf at hk
        rw [if_neg (by omega)] at hk
        injection hk with k1 k2
        exact ⟨k, y, hf, hky, hyp, by omega, by omega, fun _ => ⟨a1, a2⟩, fun _ => ⟨b1, b2⟩, fun _ => k2, fun _ h => by rw [k1]; exact hm h⟩
theorem rest_same {t : TV} {ds : List ByteArray} {w : World} (hT : TreeD w t ds) {c : Cmd} {sd : List ByteArray} (h : DoE t ds c sd = 0) {u : TV} {es : List ByteArray} (hu : TellsM (doW t ds c sd) u es) {x m : Node} (hx : x ∈ t.nodes) (hm : m ∈ t.nodes) (hcx : ¬ c.at x.path) (hcm : ¬ c.at m.path) {k l : Nat} {y z : Node} (hy : Kept2 c t ds u es x k y) (hz : Kept2 c t ds u es m l z) (hf : x.file ≠ -1) : m.file = x.file ↔ z.file = y.file := by
  obtain ⟨hl, h0⟩ := doE_loose h
  have hM := open_ok hT hl
  have hW : doW t ds c sd = doM (openM t ds) c sd := by unfold doW; rw [if_pos h]
  rw [hW] at hu
  have hN := hM.do c sd
  obtain ⟨b, w2, S, hS, rfl⟩ := hu
  have hvw := vw_do hM.inv h0
  have hA := apart_of_rises (looseP_of hl).good.rises
  have hAu := apart_of_rises (told_loose hN.inv hN.len hS).good.rises
  have hs := vDo_away_s (openM t ds).vw c sd hcm hcx
  rw [← hvw] at hs
  have hs1 : sB (doM (openM t ds) c sd).nodes m.path x.path = sB t.nodes m.path x.path := hs
  have key : sameL u.nodes m.path x.path ↔ sameL t.nodes m.path x.path := by
    rw [told_sameL hS, ← sB_iff hN.inv.apart, hs1, sB_iff hA]
  have e1 : sameL t.nodes m.path x.path ↔ m.file = x.file := by
    constructor
    · rintro ⟨a, ha, b, hb, ea, eb, _, e⟩
      have h1 := apart_inj hA ha hm ea
      have h2 := apart_inj hA hb hx eb
      subst h1 h2; exact e
    · intro e
      exact ⟨m, hm, x, hx, rfl, rfl, by have := hy.rx hf; omega, e⟩
  have hym := List.mem_of_getElem? hy.at_
  have hzm := List.mem_of_getElem? hz.at_
  have e2 : sameL u.nodes m.path x.path ↔ z.file = y.file := by
    constructor
    · rintro ⟨a, ha, b, hb, ea, eb, _, e⟩
      have h1 := apart_inj hAu ha hzm (ea.trans hz.path.symm)
      have h2 := apart_inj hAu hb hym (eb.trans hy.path.symm)
      subst h1 h2; exact e
    · intro e
      exact ⟨z, hzm, y, hym, hz.path, hy.path, by have := hy.ry hf; omega, e⟩
  rw [← e1, ← e2, key]
theorem rest_len {t : TV} {ds : List ByteArray} {w : World} (hT : TreeD w t ds) {c : Cmd} {sd : List ByteArray} (h : DoE t ds c sd = 0) {u : TV} {es : List ByteArray} (hu : TellsM (doW t ds c sd) u es) : u.nn ≤ t.nn + 1 := by
  have hW : doW t ds c sd = doM (openM t ds) c sd := by unfold doW; rw [if_pos h]
  rw [hW] at hu
  obtain ⟨b, w2, S, hS, rfl⟩ := hu
  have := do_len (openM t ds) c sd
  rw [hS.nn, hS.perm.length_eq]
  have e : (openM t ds).nodes.length = t.nn := hT.tree.nl
  omega
theorem names_few {l : List UInt8} (h : validL l = true) : (cutL l []).length < 7 := by
  rw [validL_cut] at h
  simp only [Bool.and_eq_true, decide_eq_true_eq] at h
  omega
end Go.Proofs.Ythmeffpickejkaa
