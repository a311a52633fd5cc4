/- What the law TreeCanon needs in plain words: both Canons answer a tree of their own, and say one. -/
import Derived.Test.YtdjlchbgdehccaaCanonS
import Derived.Test.YtdjlchbgdehccaaSpoil
import Derived.Test.YtdjlchbgdehccaaStays
namespace Go.Proofs.Ytdjlchbgdehccaa
open Go.RowKit

/-- A tree of one's own. -/
structure OutAt (W : World) (base : Nat) (u : TV) (es : List ByteArray) : Prop where
  nl : u.nodes.length = u.nn
  fl : u.files.length = u.fn
  dl : es.length = u.files.length
  own : W.ownsRow base 29 3 (.slice u.NA u.nn u.nc) u.nn (u.nodes.flatMap Node.list)
  ownF : W.ownsRow base 39 2 (.slice u.FA u.fn u.fc) u.fn (u.files.flatMap FC.list)
  rows : FRows W base u.files es
theorem OutAt.tree {W : World} {base : Nat} {u : TV} {es : List ByteArray} (h : OutAt W base u es) : TreeD W u es := by
  have hm : ∀ {e sz n c : Nat} {A : Option Addr} {L : List Value}, W.ownsRow base e sz (.slice A n c) n L → n ≤ 9223372036854775807 := fun {e sz n c A L} h => by
    rcases h.2 with ⟨_, h0⟩ | ⟨g, cap, cur, hv, hg, hh, hnc, hcm, hcs, ht⟩
    · omega
    · unfold maxLen at hcm; omega
  refine ⟨⟨h.nl, h.fl, Sl.of_own h.own, Sl.of_own h.ownF, hm h.own, hm h.ownF⟩, ⟨h.dl, fun k x d hx hd => ?_⟩⟩
  have hr := h.rows.row k x d hx hd
  exact ⟨hr.1.symm, Sl.of_own hr.2⟩
theorem OutAt.low {W : World} {base : Nat} {u : TV} {es : List ByteArray} (h : OutAt W base u es) {k : Nat} {f : FC} {b : Nat} (hf : u.files[k]? = some f) (hb : blkOf f.A = some b) : base ≤ b ∧ b < W.heap.size := by
  have hk : k < es.length := by have := (List.getElem?_eq_some_iff.1 hf).1; have := h.dl; omega
  have ho := (h.rows.row k f _ hf (List.getElem?_eq_getElem hk)).2
  rcases hA : f.A with _ | ⟨g, o, s⟩
  · rw [hA] at hb; cases hb
  · rw [hA] at hb ho
    simp only [blkOf, Option.some.injEq] at hb
    subst hb
    exact ⟨(own_lt2 ho).1, (own_lt2 ho).2.1⟩
/-- It stays where the blocks from its base on stay. -/
theorem OutAt.keep {W W' : World} {base : Nat} {u : TV} {es : List ByteArray} (h : OutAt W base u es) (hs : W.heap.size ≤ W'.heap.size) (hk : ∀ k, base ≤ k → k < W.heap.size → W'.heap[k]? = W.heap[k]?) : OutAt W' base u es :=
  { h with
    own := own_keep h.own fun g o e => hk g (own_lt2 (by rw [← e]; exact h.own)).1 (own_lt2 (by rw [← e]; exact h.own)).2.1
    ownF := own_keep h.ownF fun g o e => hk g (own_lt2 (by rw [← e]; exact h.ownF)).1 (own_lt2 (by rw [← e]; exact h.ownF)).2.1
    rows := h.rows.keep hs fun k f b hf hb => hk b (h.low hf hb).1 (h.low hf hb).2 }
theorem OutAt.below {W W' : World} {base : Nat} {u : TV} {es : List ByteArray} (h : OutAt W base u es) (hb : Below W.heap.size W W') : OutAt W' base u es := h.keep hb.size fun k _ hl => hb.block k hl
theorem OutAt.mid {W W' : World} {base top : Nat} {u : TV} {es : List ByteArray} (h : OutAt W base u es) (hb : top ≤ base) (hm : Mid top W W') : OutAt W' base u es := h.keep hm.1 fun k hk hl => hm.2 k (by omega) hl
def zeroT : TV := ⟨[], [], none, 0, 0, none, 0, 0⟩
theorem zeroT_out (W : World) (base : Nat) : OutAt W base zeroT [] := ⟨rfl, rfl, rfl, ⟨rfl, .inl ⟨rfl, rfl⟩⟩, ⟨rfl, .inl ⟨rfl, rfl⟩⟩, FRows.nil _ _ _⟩
theorem canoned_out {l : List Node} {F : Int → Int × ByteArray} {base : Nat} {W : World} {S : List Node} {u : TV} (h : Canoned l F base W S u) : OutAt W base u ((idsL S).map fun i => (F i).2) :=
  ⟨by rw [h.nodes, List.length_map, h.nn], h.fl, by rw [List.length_map, h.fl, h.fn], h.own, h.ownF, h.rows⟩
/-- What a Canon says of a tree. -/
def COut (t : TV) (ds : List ByteArray) (E : Int) (u : TV) (es : List ByteArray) : Prop :=
  (E = 31 ∧ boundB t = true ∧ u = zeroT ∧ es = []) ∨
  (E = 30 ∧ boundB t = false ∧ u = zeroT ∧ es = [] ∧ ((∃ x ∈ t.nodes, badFile t.fn x = true) ∨ ∃ (S : List Node) (v : TV) (w2 : World) (b2 : Nat), Canoned t.nodes (treeF t ds) b2 w2 S v ∧ formB v = false)) ∨
  (E = 0 ∧ boundB t = false ∧ (∀ x ∈ t.nodes, badFile t.fn x = false) ∧ ∃ (S : List Node) (w2 : World) (b2 : Nat), Canoned t.nodes (treeF t ds) b2 w2 S u ∧ formB u = true ∧ es = (idsL S).map fun i => (treeF t ds i).2)
def SmallT (u : TV) : Prop := u.nn ≤ 256 ∧ u.fn ≤ 256 ∧ ∀ x ∈ u.files, x.n ≤ 8192
theorem small_of {u : TV} (hb : boundB u = false) : SmallT u := by
  simp only [boundB, Bool.or_eq_false_iff, decide_eq_false_iff_not, anyLong, List.any_eq_false] at hb
  exact ⟨by omega, by omega, fun x hx => by have := hb.2 x hx; simpa using this⟩
theorem form_same {l : List Node} {F : Int → Int × ByteArray} {b1 b2 : Nat} {w1 w2 : World} {S1 S2 : List Node} {u1 u2 : TV} (h1 : Canoned l F b1 w1 S1 u1) (h2 : Canoned l F b2 w2 S2 u2) (hf : formB u1 = true) : S1 = S2 ∧ formB u2 = true := by
  have e := ws_eq h1.perm h2.perm h1.ws h2.ws (canoned_apart h1 hf)
  subst e
  exact ⟨rfl, (formB_congr (by rw [h1.nodes, h2.nodes]) (by rw [h1.fn, h2.fn]) (by rw [h1.modes, h2.modes])).symm.trans hf⟩
/-- Two that say it say one. -/
theorem COut.eq {t : TV} {ds : List ByteArray} {E1 E2 : Int} {u1 u2 : TV} {e1 e2 : List ByteArray} (h1 : COut t ds E1 u1 e1) (h2 : COut t ds E2 u2 e2) : E1 = E2 ∧ exactB u1 u2 e1 e2 = true := by
  have refu : ∀ {S : List Node} {w : World} {b : Nat} {u : TV}, (∀ x ∈ t.nodes, badFile t.fn x = false) → Canoned t.nodes (treeF t ds) b w S u → formB u = true → ((∃ x ∈ t.nodes, badFile t.fn x = true) ∨ ∃ (S : List Node) (v : TV) (w2 : World) (b2 : Nat), Canoned t.nodes (treeF t ds) b2 w2 S v ∧ formB v = false) → False := fun {S w b u} hg hc hf hr => by
    rcases hr with ⟨x, hx, he⟩ | ⟨S2, v, w2, b2, hc2, hf2⟩
    · rw [hg x hx] at he; cases he
    · rw [(form_same hc hc2 hf).2] at hf2; cases hf2
  rcases h1 with ⟨a1, a2, a3, a4⟩ | ⟨a1, a2, a3, a4, a5⟩ | ⟨a1, a2, a3, S1, w1, b1, a4, a5, a6⟩ <;> rcases h2 with ⟨c1, c2, c3, c4⟩ | ⟨c1, c2, c3, c4, c5⟩ | ⟨c1, c2, c3, S2, w2, b2, c4, c5, c6⟩
  · subst a1 a3 a4 c1 c3 c4; exact ⟨rfl, by simp [exactB]⟩
  · rw [a2] at c2; cases c2
  · rw [a2] at c2; cases c2
  · rw [a2] at c2; cases c2
  · subst a1 a3 a4 c1 c3 c4; exact ⟨rfl, by simp [exactB]⟩
  · exact absurd (refu c3 c4 c5 a5) id
  · rw [a2] at c2; cases c2
  · exact absurd (refu a3 a4 a5 c5) id
  · obtain ⟨e, _⟩ := form_same a4 c4 a5
    subst e a1 c1 a6 c6
    exact ⟨rfl, by simp [exactB, a4.nodes, c4.nodes, a4.modes, c4.modes]⟩
/-- A lent tree is put in order as the tree that it was lent from. -/
theorem COut.same {t u : TV} {ds : List ByteArray} {E : Int} {v : TV} {es : List ByteArray} (h : COut u ds E v es) (h1 : u.nodes = t.nodes) (h2 : u.fn = t.fn) (h3 : treeF u ds = treeF t ds) (h4 : boundB u = boundB t) : COut t ds E v es := by
  unfold COut at h ⊢
  rw [h1, h2, h3, h4] at h
  exact h
theorem lent_canon {u t : TV} {ds : List ByteArray} {w w' : World} (hu : TreeD w u ds) (ht : TreeD w' t ds) (hx : exactB u t ds ds = true) : u.nodes = t.nodes ∧ u.fn = t.fn ∧ treeF u ds = treeF t ds ∧ boundB u = boundB t := by
  obtain ⟨p1, p2, _⟩ := exact_parts hx
  have hnn : u.nn = t.nn := by rw [← hu.tree.nl, ← ht.tree.nl, p1]
  have hfl : u.files.length = t.files.length := by have := congrArg List.length p2; simpa using this
  have hfn : u.fn = t.fn := by rw [← hu.tree.fl, ← ht.tree.fl, hfl]
  have hsz : ∀ {W : World} {x : TV}, TreeD W x ds → x.files.map (·.n) = ds.map (·.size) := fun {W x} hx => by
    apply List.ext_getElem?
    intro k
    rw [List.getElem?_map, List.getElem?_map]
    rcases hk : x.files[k]? with _ | f
    · have hkl : ds[k]? = none := by rw [List.getElem?_eq_none_iff] at hk ⊢; rw [hx.dat.len]; exact hk
      rw [hkl]; rfl
    · obtain ⟨d, hd, hdn, _⟩ := hx.dat.get hk
      rw [hd]; exact congrArg some hdn.symm
  have hn : u.files.map (·.n) = t.files.map (·.n) := by rw [hsz hu, hsz ht]
  have hlong : anyLong u.files = anyLong t.files := by
    have e : ∀ fs : List FC, anyLong fs = (fs.map (·.n)).any (fun n => decide (8192 < n)) := fun fs => by unfold anyLong; rw [List.any_map]; rfl
    rw [e, e, hn]
  refine ⟨p1, hfn, ?_, by unfold boundB; rw [hnn, hfn, hlong]⟩
  funext i
  unfold treeF
  have e : ∀ fs : List FC, fs[i.toNat]?.map (·.mode) = (fs.map (·.mode))[i.toNat]? := fun fs => by rw [List.getElem?_map]
  have hm := (e u.files).trans ((congrArg (·[i.toNat]?) p2).trans (e t.files).symm)
  rcases h1 : u.files[i.toNat]? with _ | a <;> rcases h2 : t.files[i.toNat]? with _ | b <;> rw [h1, h2] at hm <;> simp at hm <;> simp [hm]
theorem tcanon_out {t : TV} {ds : List ByteArray} {W w w' : World} {e : Ending} (hT : TreeD W t ds) (h : TCanonRes t ds w e w') : Below w.heap.size w w' ∧ ∃ (u : TV) (E : Int) (es : List ByteArray), e = .returned (.tuple #[u.val, .int .i64 E]) ∧ OutAt w' w.heap.size u es ∧ COut t ds E u es ∧ SmallT u := by
  obtain ⟨hb, u, E, he, h⟩ := h
  refine ⟨hb, u, E, ?_⟩
  rcases h with ⟨h1, h2, h3⟩ | ⟨h1, h2, h3, h4⟩ | ⟨h1, h2, h3, S, h4, h5⟩
  · exact ⟨[], he, by rw [h3]; exact zeroT_out _ _, .inl ⟨h1, h2, h3, rfl⟩, by rw [h3]; exact ⟨by decide, by decide, fun x hx => by cases hx⟩⟩
  · refine ⟨[], he, by rw [h3]; exact zeroT_out _ _, .inr (.inl ⟨h1, h2, h3, rfl, ?_⟩), by rw [h3]; exact ⟨by decide, by decide, fun x hx => by cases hx⟩⟩
    by_cases hbad : ∃ x ∈ t.nodes, badFile t.fn x = true
    · exact .inl hbad
    · rcases h4 with h4 | ⟨S, v, w2, hc, hl⟩
      · exact .inl h4
      · refine .inr ⟨S, v, w2, _, hc, ?_⟩
        have hg : ∀ x ∈ t.nodes, badFile t.fn x = false := fun x hx => by
          by_cases e : badFile t.fn x = true
          · exact absurd ⟨x, hx, e⟩ hbad
          · simpa using e
        rw [looseE_form, canoned_bound hT h2 hg hc] at hl
        by_cases e : formB v = true
        · rw [e] at hl; exact absurd rfl hl
        · simpa using e
  · have hbu := canoned_bound hT h2 h3 h4
    refine ⟨_, he, canoned_out h4, .inr (.inr ⟨h1, h2, h3, S, _, _, h4, ?_, rfl⟩), small_of hbu⟩
    rw [looseE_form, hbu] at h5
    by_cases e : formB u = true
    · exact e
    · rw [Bool.not_eq_true] at e; rw [e] at h5; cases h5
theorem rcanon_out {t : TV} {ds : List ByteArray} {W w w' : World} {e : Ending} (hT : TreeD W t ds) (h : RCanonRes t ds w e w') : Below w.heap.size w w' ∧ ∃ (u : TV) (E : Int) (es : List ByteArray), e = .returned (.tuple #[u.val, .int .i64 E]) ∧ OutAt w' w.heap.size u es ∧ COut t ds E u es ∧ SmallT u := by
  obtain ⟨hb, u, E, he, h⟩ := h
  refine ⟨hb, u, E, ?_⟩
  rcases h with ⟨h1, h2, h3⟩ | ⟨h1, h2, h3, h4⟩ | ⟨h1, h2, h3, S, h4, h5⟩
  · exact ⟨[], he, by rw [h3]; exact zeroT_out _ _, .inl ⟨h1, h2, h3, rfl⟩, by rw [h3]; exact ⟨by decide, by decide, fun x hx => by cases hx⟩⟩
  · refine ⟨[], he, by rw [h3]; exact zeroT_out _ _, .inr (.inl ⟨h1, h2, h3, rfl, ?_⟩), by rw [h3]; exact ⟨by decide, by decide, fun x hx => by cases hx⟩⟩
    rcases h4 with h4 | ⟨S, v, w2, hc, hl⟩
    · exact .inl h4
    · exact .inr ⟨S, v, w2, _, hc, hl⟩
  · exact ⟨_, he, canoned_out h4, .inr (.inr ⟨h1, h2, h3, S, _, _, h4, h5, rfl⟩), small_of (canoned_bound hT h2 h3 h4)⟩
end Go.Proofs.Ytdjlchbgdehccaa
