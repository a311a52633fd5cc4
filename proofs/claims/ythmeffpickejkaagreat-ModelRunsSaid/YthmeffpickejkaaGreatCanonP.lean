/- Nodes put in order: a list that rises, if no path stands twice. -/
import Derived.Test.YthmeffpickejkaaGreatIds
import Derived.Test.YthmeffpickejkaaGreatUniq
import Derived.Test.YthmeffpickejkaaGreatCopy0
namespace Go.Proofs.YthmeffpickejkaaGreat
open Go.RowKit

/-- No path stands ahead of a lesser one. -/
def WS (l : List Node) : Prop := l.Pairwise fun x y => ¬ pathL y < pathL x
theorem not_lt_tr {a b c : List UInt8} (h : ¬ b < a) (k : ¬ c < b) : ¬ c < a := fun e => by
  rcases lt_or b a with h1 | h1 | h1
  · exact h h1
  · rw [h1] at k; exact k e
  · exact k (lt_tr e h1)
theorem ws_ins {l : List Node} {x : Node} {k : Nat} (h : WS l) (h1 : ∀ y ∈ l.take k, pathL y < pathL x) (h2 : ∀ z, l[k]? = some z → ¬ pathL z < pathL x) : WS (l.take k ++ x :: l.drop k) := by
  have hd : ∀ z ∈ l.drop k, ¬ pathL z < pathL x := fun z hz => by
    cases hk : l[k]? with
    | none =>
      rw [List.drop_of_length_le (List.getElem?_eq_none_iff.1 hk)] at hz; cases hz
    | some y =>
      have hy := h2 y hk
      have e := drop_at' hk
      rw [e] at hz
      rcases List.mem_cons.1 hz with rfl | hz
      · exact hy
      · have hp : WS (l.drop k) := List.Pairwise.sublist (List.drop_sublist k l) h
        rw [e] at hp
        exact not_lt_tr hy ((List.pairwise_cons.1 hp).1 z hz)
  refine List.pairwise_append.2 ⟨List.Pairwise.sublist (List.take_sublist k l) h, List.pairwise_cons.2 ⟨hd, List.Pairwise.sublist (List.drop_sublist k l) h⟩, fun y hy z hz => ?_⟩
  rcases List.mem_cons.1 hz with rfl | hz
  · exact fun e => lt_irr _ (lt_tr e (h1 y hy))
  · exact fun e => hd z hz (lt_tr e (h1 y hy))
theorem perm_ins {l m : List Node} {x : Node} (k : Nat) (h : l.Perm m) : (l.take k ++ x :: l.drop k).Perm (m ++ [x]) := by
  have h1 : (l.take k ++ x :: l.drop k).Perm (x :: (l.take k ++ l.drop k)) := List.perm_middle
  rw [List.take_append_drop] at h1
  exact h1.trans ((List.Perm.cons x h).trans (List.perm_append_singleton x m).symm)
theorem rises_of_ws : ∀ {l : List Node}, WS l → Apart l → Rises l
  | [], _, _ => List.Pairwise.nil
  | x :: t, h, hA => by
    have ⟨h1, h2⟩ := List.pairwise_cons.1 h
    have ⟨a1, a2⟩ := List.nodup_cons.1 (show (x.path :: t.map (·.path)).Nodup from hA)
    refine List.pairwise_cons.2 ⟨fun y hy => ?_, rises_of_ws h2 a2⟩
    rcases lt_or (pathL x) (pathL y) with e | e | e
    · exact e
    · exact absurd (List.mem_map.2 ⟨y, hy, (ba_ext e).symm⟩) a1
    · exact absurd e (h1 y hy)
theorem apart_of_perm {l m : List Node} (h : l.Perm m) (hA : Apart m) : Apart l := (h.map (fun x : Node => x.path)).nodup_iff.2 hA
theorem ws_eq {S S' l : List Node} (h : S.Perm l) (h' : S'.Perm l) (w : WS S) (w' : WS S') (hA : Apart l) : S = S' :=
  (h.trans h'.symm).eq_of_pairwise (fun _ _ _ _ h1 h2 => absurd h1 (List.lt_asymm h2)) (rises_of_ws w (apart_of_perm h hA)) (rises_of_ws w' (apart_of_perm h' hA))
/-- A tree of nodes and files, put in order, in memory of its own. -/
structure Canoned (l : List Node) (F : Int → Int × ByteArray) (base : Nat) (w' : World) (S : List Node) (u : TV) : Prop where
  perm : S.Perm l
  ws : WS S
  nodes : u.nodes = S.map (reN (idsL S))
  nn : u.nn = S.length
  fn : u.fn = (idsL S).length
  fl : u.files.length = u.fn
  modes : u.files.map (·.mode) = (idsL S).map (fun i => (F i).1)
  own : w'.ownsRow base 56 3 (.slice u.NA u.nn u.nc) u.nn (u.nodes.flatMap Node.list)
  ownF : w'.ownsRow base 59 2 (.slice u.FA u.fn u.fc) u.fn (u.files.flatMap FC.list)
  rows : FRows w' base u.files ((idsL S).map fun i => (F i).2)
theorem Canoned.move {l : List Node} {F : Int → Int × ByteArray} {base : Nat} {w w' : World} {S : List Node} {u : TV} {row : Option Nat} (h : Canoned l F base w S u) (hg : w.grownBy w' row) (hr : ∀ rb, row = some rb → ∃ cs, Blk w rb 25 cs) : Canoned l F base w' S u := by
  have key : ∀ {e sz n c : Nat} {A : Option Addr} {L : List Value}, w.ownsRow base e sz (.slice A n c) n L → e ≠ 25 → w'.ownsRow base e sz (.slice A n c) n L := fun {e sz n c A L} ho hne =>
    own_keep ho fun g o ea => hg.block g (own_lt2 (by rw [← ea]; exact ho)).2.1 fun e2 => by
      obtain ⟨cs, hb⟩ := hr g e2.symm
      exact hb.ne_row ho (fun e3 => hne e3.symm) (by rw [ea]; rfl)
  refine { h with own := key h.own (by decide), ownF := key h.ownF (by decide), rows := ⟨fun k f d hf hd => ⟨(h.rows.row k f d hf hd).1, key (h.rows.row k f d hf hd).2 (by decide)⟩, h.rows.apart, fun k f b hf hb => Nat.lt_of_lt_of_le (h.rows.low k f b hf hb) hg.size⟩ }
theorem Canoned.tree {l : List Node} {F : Int → Int × ByteArray} {base : Nat} {w : World} {S : List Node} {u : TV} (h : Canoned l F base w S u) : TreeD w u ((idsL S).map fun i => (F i).2) := by
  have hm : ∀ {e sz n c : Nat} {A : Option Addr} {L : List Value}, w.ownsRow base e sz (.slice A n c) n L → n ≤ 9223372036854775807 := fun {e sz n c A L} h => by
    rcases h.2 with ⟨_, h0⟩ | ⟨g, cap, cur, hv, hg, hh, hnc, hcm, hcs, ht⟩
    · omega
    · unfold maxLen at hcm; omega
  have hl : ((idsL S).map fun i => (F i).2).length = u.files.length := by rw [List.length_map, h.fl, h.fn]
  refine ⟨⟨by rw [h.nodes, List.length_map, h.nn], h.fl, Sl.of_own h.own, Sl.of_own h.ownF, hm h.own, hm h.ownF⟩, ⟨hl, fun k x d hx hd => ?_⟩⟩
  have hr := h.rows.row k x d hx hd
  exact ⟨hr.1.symm, Sl.of_own hr.2⟩
/-- A node of a file that there is not. -/
def badFile (fn : Nat) (x : Node) : Bool := decide (x.file < -1) || decide ((fn : Int) ≤ x.file)
theorem reN_path' (ids : List Int) (x : Node) : (reN ids x).path = x.path := by unfold reN; split <;> rfl
/-- Where a path stands twice, nothing is loose. -/
theorem canoned_apart {l : List Node} {F : Int → Int × ByteArray} {base : Nat} {w' : World} {S : List Node} {u : TV} (h : Canoned l F base w' S u) (hf : formB u = true) : Apart l := by
  have hR : Rises u.nodes := by
    unfold formB at hf
    split at hf
    · rename_i r hr
      exact (form_rises _ _ _ _ _ _ hr).1
    · cases hf
  have hA := apart_of_rises hR
  rw [Apart, h.nodes, List.map_map] at hA
  rw [show ((fun x : Node => x.path) ∘ reN (idsL S)) = fun x : Node => x.path from funext fun x => reN_path' _ x] at hA
  exact apart_of_perm h.perm.symm hA
/-- The nodes of which the first k are numbered anew. -/
def mixN (S : List Node) (k : Nat) : List Node := (S.take k).map (reN (idsL (S.take k))) ++ S.drop k
theorem mix_len (S : List Node) (k : Nat) : (mixN S k).length = S.length := by
  rw [mixN, List.length_append, List.length_map, List.length_take, List.length_drop]; omega
theorem mix_get {S : List Node} {k : Nat} {x : Node} (h : S[k]? = some x) : (mixN S k)[k]? = some x := by
  have hk : k < S.length := (List.getElem?_eq_some_iff.1 h).1
  have hl : ((S.take k).map (reN (idsL (S.take k)))).length = k := by rw [List.length_map, List.length_take]; omega
  rw [mixN, List.getElem?_append_right (by omega), hl, Nat.sub_self, List.getElem?_drop]
  exact h
theorem mix_set {S : List Node} {k : Nat} {x : Node} (h : S[k]? = some x) : (mixN S k).set k (reN (idsL (S.take (k + 1))) x) = mixN S (k + 1) := by
  have hk : k < S.length := (List.getElem?_eq_some_iff.1 h).1
  have hl : ((S.take k).map (reN (idsL (S.take k)))).length = k := by rw [List.length_map, List.length_take]; omega
  have e := map_re_snoc (S.take k) x
  rw [← take_snoc' h] at e
  rw [mixN, mixN, e, List.set_append_right _ _ (by omega), hl, Nat.sub_self, drop_at' h, List.set_cons_zero, List.append_assoc]
  rfl
theorem mix_same {S : List Node} {k : Nat} {x : Node} (h : S[k]? = some x) (he : reN (idsL (S.take (k + 1))) x = x) : mixN S k = mixN S (k + 1) := by
  rw [← mix_set h, he]
  have h2 := mix_get h
  apply List.ext_getElem?
  intro i
  rw [List.getElem?_set]
  by_cases e : k = i
  · subst e
    rw [if_pos rfl, if_pos (List.getElem?_eq_some_iff.1 h2).1, h2]
  · rw [if_neg e]
theorem mix_all {S : List Node} {k : Nat} (h : S.length = k) : mixN S k = S.map (reN (idsL S)) := by
  rw [mixN, List.take_of_length_le (by omega), List.drop_of_length_le (by omega), List.append_nil]
theorem idsL_le (l : List Node) : (idsL l).length ≤ l.length := by
  have h : ∀ (l : List Node) (acc : List Int), (l.foldl idStep acc).length ≤ acc.length + l.length := by
    intro l
    induction l with
    | nil => intro acc; simp
    | cons x t ih =>
      intro acc
      have h2 := ih (idStep acc x)
      have h3 : (idStep acc x).length ≤ acc.length + 1 := by unfold idStep; split <;> simp
      simp only [List.foldl_cons, List.length_cons]
      omega
  simpa [idsL] using h l []
/-- The new numbers of the files, by the old ones. -/
def toF (ids : List Int) (f : Nat) : Value := .int .i64 (if (f : Int) ∈ ids then (ids.idxOf (f : Int) : Nat) else -1)
def toL (ids : List Int) (fn : Nat) : List Value := (List.range fn).map (toF ids)
theorem toL_len (ids : List Int) (fn : Nat) : (toL ids fn).length = fn := by simp [toL]
theorem toL_get {ids : List Int} {fn f : Nat} (h : f < fn) : (toL ids fn)[f]? = some (toF ids f) := by simp [toL, h]
theorem toL_set {ids : List Int} {fn f : Nat} (h : (f : Int) ∉ ids) (hf : f < fn) : (toL ids fn).set f (.int .i64 (ids.length : Nat)) = toL (ids ++ [(f : Int)]) fn := by
  apply List.ext_getElem?
  intro i
  rw [List.getElem?_set]
  by_cases e : f = i
  · subst e
    rw [if_pos rfl, if_pos (by rw [toL_len]; exact hf), toL_get hf]
    unfold toF
    rw [if_pos (by simp), List.idxOf_append, if_neg h]
    simp
  · rw [if_neg e]
    by_cases hi : i < fn
    · rw [toL_get hi, toL_get hi]
      unfold toF
      by_cases h2 : (i : Int) ∈ ids
      · rw [if_pos h2, if_pos (by simp [h2]), idx_pre h2]
      · rw [if_neg h2, if_neg (by simp [h2]; omega)]
    · rw [List.getElem?_eq_none (by rw [toL_len]; omega), List.getElem?_eq_none (by rw [toL_len]; omega)]
theorem toL_new {L : List Value} {fn : Nat} (hl : L.length = fn) (h : ∀ j, j < fn → L[j]? = some (.int .i64 (-1))) : L = toL [] fn := by
  apply List.ext_getElem?
  intro i
  by_cases hi : i < fn
  · rw [h i hi, toL_get hi]; rfl
  · rw [List.getElem?_eq_none (by omega), List.getElem?_eq_none (by rw [toL_len]; omega)]
theorem setc_own {w : World} {base e sz g n c i : Nat} {L : List Value} (h : w.ownsRow base e sz (.slice (some ⟨g, 0, none⟩) n c) n L) (v : Value) :
    (w.setCell ⟨g, i, none⟩ v).ownsRow base e sz (.slice (some ⟨g, 0, none⟩) n c) n (L.set i v) := by
  refine ⟨by rw [List.length_set]; exact h.1, ?_⟩
  rcases h.2 with ⟨h', _⟩ | ⟨g', cap, cur, hv, hg, hh, hnc, hcm, hcs, ht⟩
  · cases h'
  · injection hv with hA _ hC
    injection hA with hA
    injection hA with hA
    subst hA hC
    refine .inr ⟨g, c, cur.setIfInBounds i v, rfl, hg, heap_setCell_same w g i cur e v hh, hnc, hcm, by simpa using hcs, ?_⟩
    rw [Array.toList_setIfInBounds, List.take_set, ht]
theorem own_cur {w : World} {base e sz g n c : Nat} {L : List Value} (h : w.ownsRow base e sz (.slice (some ⟨g, 0, none⟩) n c) n L) : ∃ cur, Blk w g e cur := by
  rcases h.2 with ⟨h', _⟩ | ⟨g', cap, cur, hv, hg, hh, _⟩
  · cases h'
  · injection hv with hA
    injection hA with hA
    injection hA with hA
    subst hA
    exact ⟨cur, hh⟩
theorem own_low {w : World} {base base' e sz n c : Nat} {A : Option Addr} {L : List Value} (h : w.ownsRow base e sz (.slice A n c) n L) (hb : base' ≤ base) : w.ownsRow base' e sz (.slice A n c) n L := by
  refine ⟨h.1, ?_⟩
  rcases h.2 with h0 | ⟨g, cap, cur, hv, hg, r⟩
  · exact .inl h0
  · exact .inr ⟨g, cap, cur, hv, Nat.le_trans hb hg, r⟩
theorem own_some {w : World} {base e sz n c : Nat} {A : Option Addr} {L : List Value} (h : w.ownsRow base e sz (.slice A n c) n L) (hn : 0 < n) : ∃ g, A = some ⟨g, 0, none⟩ := by
  rcases h.2 with ⟨h', _⟩ | ⟨g', cap, cur, hv, _⟩
  · injection h' with _ h2; omega
  · injection hv with hA; exact ⟨g', hA⟩
theorem flat_setj {α : Type} {f : α → List Value} {sz : Nat} (hf : ∀ x, (f x).length = sz) : ∀ {xs : List α} {k j : Nat} {x x' : α} {v : Value}, xs[k]? = some x → j < sz → f x' = (f x).set j v → (xs.flatMap f).set (k * sz + j) v = (xs.set k x').flatMap f
  | [], k, j, x, x', v, h, _, _ => by simp at h
  | y :: t, 0, j, x, x', v, h, hj, he => by
    simp at h; subst h
    rw [List.flatMap_cons, List.set_cons_zero, List.flatMap_cons, he, Nat.zero_mul, Nat.zero_add, List.set_append_left _ _ (by rw [hf]; exact hj)]
  | y :: t, k + 1, j, x, x', v, h, hj, he => by
    rw [List.flatMap_cons, List.set_cons_succ, List.flatMap_cons, List.set_append_right _ _ (by rw [hf, Nat.succ_mul]; omega), hf, show (k + 1) * sz + j - sz = k * sz + j by rw [Nat.succ_mul]; omega, flat_setj hf (by simpa using h) hj he]
end Go.Proofs.YthmeffpickejkaaGreat
