/- A lent tree's world is the tree's; both Do's, told; sizes of a stock that was read in bulk. -/
import Derived.Test.YthmeffpickejkaaGreatViews
import Derived.Test.YthmeffpickejkaaGreatRDoAll
import Derived.Test.YthmeffpickejkaaGreatStays
import Derived.Test.YthmeffpickejkaaGreatBulkS
namespace Go.Proofs.YthmeffpickejkaaGreat
open Go.ChangeShapes Go.WideShapes Go.ChangeAt Go.RowKit Go.Deep

theorem dat_sizes {W : World} {v : TV} {ds : List ByteArray} (h : TreeD W v ds) : v.files.map (·.n) = ds.map (·.size) := by
  apply List.ext_getElem?
  intro i
  rw [List.getElem?_map, List.getElem?_map]
  cases hx : v.files[i]? with
  | none =>
    have : ds[i]? = none := by rw [List.getElem?_eq_none_iff] at hx ⊢; rw [h.dat.len]; exact hx
    rw [this]; rfl
  | some x =>
    obtain ⟨d, hd, hs, _⟩ := h.dat.get hx
    rw [hd]; simp [hs]
theorem lent_same {u t : TV} {ds : List ByteArray} {w w' : World} (hu : TreeD w u ds) (ht : TreeD w' t ds) (hx : exactB u t ds ds = true) : looseE u = looseE t ∧ openM u ds = openM t ds := by
  obtain ⟨p1, p2, _⟩ := exact_parts hx
  have hnn : u.nn = t.nn := by rw [← hu.tree.nl, ← ht.tree.nl, p1]
  have hfl : u.files.length = t.files.length := by have := congrArg List.length p2; simpa using this
  have hfn : u.fn = t.fn := by rw [← hu.tree.fl, ← ht.tree.fl, hfl]
  have hn : u.files.map (·.n) = t.files.map (·.n) := by rw [dat_sizes hu, dat_sizes ht]
  have hlong : anyLong u.files = anyLong t.files := by
    have e : ∀ fs : List FC, anyLong fs = (fs.map (·.n)).any (fun n => decide (8192 < n)) := fun fs => by unfold anyLong; rw [List.any_map]; rfl
    rw [e, e, hn]
  have hmode : (u.files.all fun x => okMode x.mode) = t.files.all fun x => okMode x.mode := by
    have e : ∀ fs : List FC, (fs.all fun x => okMode x.mode) = (fs.map (·.mode)).all okMode := fun fs => by rw [List.all_map]; rfl
    rw [e, e, p2]
  have htf : ∀ i, treeF u ds i = treeF t ds i := fun i => by
    unfold treeF
    rw [← List.getElem?_map, p2, List.getElem?_map]
  refine ⟨?_, ?_⟩
  · unfold looseE boundB
    rw [hnn, hfn, hlong, p1, hmode]
  · unfold openM filesP
    rw [p1, hfn]
    simp only [htf]
theorem lent_doE {u t : TV} {ds : List ByteArray} (h : looseE u = looseE t ∧ openM u ds = openM t ds) (c : Cmd) (sd : List ByteArray) : DoE u ds c sd = DoE t ds c sd ∧ doW u ds c sd = doW t ds c sd := by
  have e : DoE u ds c sd = DoE t ds c sd := by unfold DoE; rw [h.1, h.2]
  exact ⟨e, by unfold doW; rw [e, h.2]⟩
theorem RDo_told (t : TV) (ds : List ByteArray) (c : Cmd) (SA : Option Addr) (sn sc : Nat) (ss : List SC) (sd : List ByteArray) (w : World) (h : TreeD w t ds) (hS : StockAt w SA sn ss sd) :
    Calls Tryz.prog 25 #[t.val, .agg c.cells, .slice SA sn sc] w fun e w' => ∃ u S, e = .returned (.tuple #[u.val, .int .i64 (DoE t ds c sd)]) ∧ ToldAs (doW t ds c sd) w.heap.size w' S u ∧ Below w.heap.size w w' := by
  refine (rdo_any t ds c SA sn sc ss sd w h hS).mono ?_
  rintro e w' ⟨u, he, h0, h1, hb⟩
  by_cases hE : DoE t ds c sd = 0
  · obtain ⟨S, hS⟩ := h1 hE
    exact ⟨u, S, he, by unfold doW; rw [if_pos hE]; exact hS, hb⟩
  · obtain rfl := h0 hE
    exact ⟨zeroTV, [], he, by unfold doW; rw [if_neg hE]; exact zero_told _ _, hb⟩
theorem ToldAs.keep {M : PW} {base : Nat} {w w' : World} {S : List Node} {u : TV} (h : ToldAs M base w S u) (hb : Below w.heap.size w w') : ToldAs M base w' S u :=
  { h with
    own := own_keep h.own fun g o (e : u.NA = _) => hb.block g (own_lt2 (by rw [← e]; exact h.own)).2.1
    ownF := own_keep h.ownF fun g o (e : u.FA = _) => hb.block g (own_lt2 (by rw [← e]; exact h.ownF)).2.1
    rows := h.rows.keep hb.size fun k f b hf hb' => hb.block b (h.rows.low k f b hf hb') }
end Go.Proofs.YthmeffpickejkaaGreat
