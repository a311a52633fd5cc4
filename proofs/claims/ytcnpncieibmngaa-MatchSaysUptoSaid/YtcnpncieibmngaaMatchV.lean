/- What match.Match holds ahead of each round of its loops over functions, and what the machine's own turns leave of it. -/
import Derived.Test.YtcnpncieibmngaaMatchRS
import Derived.Test.YtcnpncieibmngaaRounds
namespace Go.Proofs.Ytcnpncieibmngaa
open Go.RowKit

/-- All cells stay. -/
def CellsStay (W W' : World) : Prop := W.heap.size ≤ W'.heap.size ∧ ∀ (g : Nat) (cs : Array Value) (t : TypeId) (p : Nat × Nat), W.heap[g]? = some (.cells cs t p) → W'.heap[g]? = some (.cells cs t p)
theorem CellsStay.blk {W W' : World} (h : CellsStay W W') {g : Nat} {t : TypeId} {cs : Array Value} (hb : Blk W g t cs) : Blk W' g t cs := h.2 g cs t _ hb
theorem CellsStay.own {W W' : World} (h : CellsStay W W') {base e sz n c : Nat} {A : Option Addr} {L : List Value} (ho : W.ownsRow base e sz (.slice A n c) n L) : W'.ownsRow base e sz (.slice A n c) n L := by
  refine own_keep ho fun g o e2 => ?_
  rcases ho.2 with ⟨h', _⟩ | ⟨g', cap, cur, hv, hg', hh, _⟩
  · injection h' with hA
    rw [hA] at e2; cases e2
  · injection hv with hA
    rw [hA] at e2
    injection e2 with e2
    injection e2 with e2
    rw [← e2, hh]
    exact h.2 _ _ _ _ hh
theorem turn_stay {B : Nat} {W W' : World} {row : Option Nat} (hg : W.grownBy W' row) (hr : ∀ r, row = some r → B ≤ r ∧ ∃ o : Obj, W.heap[r]? = some o ∧ o.isCells = false) : CellsStay W W' ∧ ∀ g, g < B → g < W.heap.size → W'.heap[g]? = W.heap[g]? := by
  refine ⟨⟨hg.size, fun g cs t p hh => ?_⟩, fun g hB hl => hg.block g hl fun e => by have := (hr g e.symm).1; omega⟩
  rw [hg.block g (Array.getElem?_eq_some_iff.1 hh).1 fun e => ?_]
  · exact hh
  · obtain ⟨_, o, ho, hoc⟩ := hr g e.symm
    rw [hh] at ho
    injection ho with ho
    rw [← ho] at hoc
    cases hoc
theorem MM1.turn {C : MC} {W W' : World} {out : List Src} {F : ByteArray → List Nat} (h : MM1 C W out F) (hc : CellsStay W W') (hm : W'.heap[C.fm]? = W.heap[C.fm]?) : MM1 C W' out F := by
  obtain ⟨es, h1, h2, h3⟩ := h.fM
  refine ⟨Nat.le_trans h.size hc.1, hc.blk h.sB, hc.blk h.tB, hc.blk h.oB, hc.own h.oR, h.ol, hc.blk h.fB, ⟨es, h1.keep hm, h2, h3.keep fun b A n c g hg hA => ?_⟩, h.fb⟩
  obtain ⟨_, cur, hh⟩ := h3.row_lt hg hA
  rw [hh]
  exact hc.2 _ _ _ _ hh
theorem OfAt.turn {W W' : World} {base n c : Nat} {A : Option Addr} {rs : List SC} {N : Nat → List ByteArray} (h : OfAt W base A n c rs N) (hc : CellsStay W W') : OfAt W' base A n c rs N :=
  ⟨h.len, hc.own h.own, fun k x hk => ⟨(h.row k x hk).1, hc.own (h.row k x hk).2⟩, h.apart⟩
theorem IdxAt.keep {W W' : World} {b N : Nat} {G : ByteArray → Option Nat} (h : IdxAt W b N G) (hm : W'.heap[b]? = W.heap[b]?) : IdxAt W' b N G := by
  obtain ⟨es, h1, h2⟩ := h
  exact ⟨es, h1.keep hm, h2⟩
theorem MM2.turn {C : MC} {D : MD} {W W' : World} (h : MM2 C D W) (hc : CellsStay W W') (h1 : W'.heap[D.dm]? = W.heap[D.dm]?) (h2 : W'.heap[D.am]? = W.heap[D.am]?) : MM2 C D W' :=
  ⟨hc.blk h.kB, hc.blk h.qB, h.qR.turn hc, hc.blk h.dB, h.dM.keep h1, hc.blk h.gB, hc.blk h.aB, h.aM.keep h2, h.n1, h.n2, h.n3, h.n4, h.n5, h.gb⟩
/-- The results' cells, the marks, and what lay there before the call. -/
structure MB (C : MC) (w0 : World) (rx ex : Nat) (Ds : List Nat) (W : World) : Prop where
  below : Below C.base w0 W
  rB : Blk W rx 29 #[.slice none 0 0]
  eB : Blk W ex 30 #[.int .i64 0]
  marks : ∀ D ∈ Ds, C.base ≤ D ∧ W.heap[D]? = some (.deferred (some []))
theorem MB.fr {C : MC} {w0 W W' : World} {rx ex x : Nat} {Ds : List Nat} (h : MB C w0 rx ex Ds W) (hf : FrM C.base [x] W W') (hx : ∃ ms ck, W.heap[x]? = some (.map ms ck)) : MB C w0 rx ex Ds W' := by
  have key : ∀ {g : Nat} {o : Obj}, W.heap[g]? = some o → (∀ ms ck, o ≠ .map ms ck) → g ∉ [x] := fun {g o} ho hne hm => by
    obtain ⟨ms, ck, hmm⟩ := hx
    rw [List.mem_singleton.1 hm, hmm] at ho
    injection ho with ho
    exact hne _ _ ho.symm
  exact ⟨h.below.trans hf.below, hf.blk h.rB (by decide) (key h.rB (fun _ _ h => by cases h)), hf.blk h.eB (by decide) (key h.eB (fun _ _ h => by cases h)), fun D hD => ⟨(h.marks D hD).1, hf.same D _ (h.marks D hD).2 rfl (key (h.marks D hD).2 (fun _ _ h => by cases h))⟩⟩
theorem MB.still {C : MC} {w0 W W' : World} {rx ex : Nat} {Ds : List Nat} (h : MB C w0 rx ex Ds W) (hg : W.grownBy W' none) (hb : C.base ≤ W.heap.size) : MB C w0 rx ex Ds W' := by
  have hf := FrM.of_none hg hb []
  exact ⟨h.below.trans hf.below, hf.blk h.rB (by decide) (by simp), hf.blk h.eB (by decide) (by simp), fun D hD => ⟨(h.marks D hD).1, hf.same D _ (h.marks D hD).2 rfl (by simp)⟩⟩
theorem MB.turn {C : MC} {w0 W W' : World} {rx ex B : Nat} {Ds : List Nat} {row : Option Nat} (h : MB C w0 rx ex Ds W) (hg : W.grownBy W' row) (hr : ∀ r, row = some r → B ≤ r ∧ ∃ o : Obj, W.heap[r]? = some o ∧ o.isCells = false) (hB : C.base ≤ B) (hs : C.base ≤ W.heap.size) (hD : ∀ D ∈ Ds, D < B) : MB C w0 rx ex Ds W' := by
  obtain ⟨hc, hk⟩ := turn_stay hg hr
  exact ⟨h.below.trans (below_grown hg hs fun g e => Nat.le_trans hB (hr g e).1), hc.blk h.rB, hc.blk h.eB, fun D hm => ⟨(h.marks D hm).1, (hk D (hD D hm) (Array.getElem?_eq_some_iff.1 (h.marks D hm).2).1).trans (h.marks D hm).2⟩⟩
theorem FrM.keepsFrom {B b x : Nat} {W W' : World} (h : FrM B [x] W W') (hx : x < b) : KeepsFrom b W W' :=
  ⟨h.below.size, fun k o hb hk ho => h.same k o hk (by cases o <;> simp_all [isSI, Obj.isCells]) (by simp only [List.mem_singleton]; omega)⟩
/-- The free files, while they are put together. -/
def buildF {ds : List ByteArray} (pre : List (Ent ds)) : ByteArray → List Nat := fun b => (pre.filter fun x => decide (x.1.2 = b)).map (·.1.1)
theorem buildF_snoc {ds : List ByteArray} (pre : List (Ent ds)) (x : Ent ds) : buildF (pre ++ [x]) = upd (buildF pre) x.1.2 (buildF pre x.1.2 ++ [x.1.1]) := by
  funext b
  unfold buildF upd
  rw [List.filter_append, List.map_append]
  by_cases e : b = x.1.2
  · subst e; simp
  · have : ¬ x.1.2 = b := fun h => e h.symm
    simp [e, this]
theorem buildF_len {ds : List ByteArray} (pre : List (Ent ds)) (b : ByteArray) : (buildF pre b).length ≤ pre.length := by
  unfold buildF
  rw [List.length_map]
  exact List.length_filter_le _ _
theorem buildF_all (ds : List ByteArray) : buildF (ents ds) = freeL ds (fun _ => false) := by
  funext b
  unfold buildF freeL ents
  rw [List.filter_map, List.map_map]
  have h1 : ∀ (n : Nat), List.range n = (List.finRange n).map (·.1) := fun n => by
    apply List.ext_getElem?
    intro i
    by_cases hi : i < n
    · simp [hi]
    · simp [hi]
  rw [h1, List.filter_map]
  have h2 : ((fun (x : Ent ds) => decide (x.1.2 = b)) ∘ fun (i : Fin ds.length) => (⟨(i.1, ds[i.1]), List.getElem?_eq_getElem i.2⟩ : Ent ds)) = ((fun g => decide (ds[g]? = some b) && !false) ∘ fun (i : Fin ds.length) => i.1) := by
    funext i
    simp
  rw [h2]
  rfl
/-- The folds of the rounds, over whatever entries. -/
def foldS {es : List ByteArray} (f : MS → Nat → MS) (st : MS) (pre : List (Ent es)) : MS := pre.foldl (fun s x => f s x.1.1) st
theorem foldS_snoc {es : List ByteArray} (f : MS → Nat → MS) (st : MS) (pre : List (Ent es)) (x : Ent es) : foldS f st (pre ++ [x]) = f (foldS f st pre) x.1.1 := by simp [foldS]
theorem ents_take {es : List ByteArray} {k : Nat} {d : ByteArray} (h : es[k]? = some d) : (ents es).take (k + 1) = (ents es).take k ++ [⟨(k, d), h⟩] := take_snoc' (ents_get h)
theorem foldS_take {es : List ByteArray} (f : MS → Nat → MS) (st : MS) (g : Nat → MS) (h0 : g 0 = st) (hs : ∀ n, n < es.length → g (n + 1) = f (g n) n) : ∀ n, n ≤ es.length → foldS f st ((ents es).take n) = g n
  | 0, _ => by rw [List.take_zero, h0]; rfl
  | n + 1, h => by
    obtain ⟨d, hd⟩ : ∃ d, es[n]? = some d := ⟨_, List.getElem?_eq_getElem (show n < es.length by omega)⟩
    rw [ents_take hd, foldS_snoc, foldS_take f st g h0 hs n (by omega), hs n (by omega)]
theorem fold1 (ns nt : List Node) (ds es : List ByteArray) : foldS (step1 ns nt ds es) (List.replicate es.length noS, fun _ => false) (ents es) = upto1 ns nt ds es es.length := by
  have := foldS_take (es := es) (step1 ns nt ds es) _ (upto1 ns nt ds es) rfl (fun n _ => rfl) es.length (Nat.le_refl _)
  rwa [List.take_of_length_le (by rw [ents_len]; exact Nat.le_refl _)] at this
theorem fold2 (ns nt : List Node) (ds es : List ByteArray) : foldS (step2 ds es) (upto1 ns nt ds es es.length) (ents es) = upto2 ns nt ds es es.length := by
  have := foldS_take (es := es) (step2 ds es) _ (upto2 ns nt ds es) rfl (fun n _ => rfl) es.length (Nat.le_refl _)
  rwa [List.take_of_length_le (by rw [ents_len]; exact Nat.le_refl _)] at this
/-- The first files that are kept, by their contents. -/
def firstF {es : List ByteArray} (out : List Src) (pre : List (Ent es)) : ByteArray → Option Nat := pre.foldl (fun G x => if kindAt out x.1.1 = 1 ∧ G x.1.2 = none then fun c => if c = x.1.2 then some x.1.1 else G c else G) fun _ => none
theorem firstF_snoc {es : List ByteArray} (out : List Src) (pre : List (Ent es)) (x : Ent es) : firstF out (pre ++ [x]) = if kindAt out x.1.1 = 1 ∧ firstF out pre x.1.2 = none then fun c => if c = x.1.2 then some x.1.1 else firstF out pre c else firstF out pre := by
  unfold firstF
  rw [List.foldl_append]
  rfl
theorem firstF_take {es : List ByteArray} (out : List Src) : ∀ n, n ≤ es.length → ∀ b, firstF out ((ents es).take n) b = (List.range n).find? fun g => decide (es[g]? = some b) && decide (kindAt out g = 1)
  | 0, _, b => by simp [firstF]
  | n + 1, h, b => by
    obtain ⟨d, hd⟩ : ∃ d, es[n]? = some d := ⟨_, List.getElem?_eq_getElem (show n < es.length by omega)⟩
    have ih := firstF_take (es := es) out n (by omega)
    rw [ents_take hd, firstF_snoc, List.range_succ, List.find?_append, ← ih b]
    simp only [List.find?_singleton, hd]
    by_cases h1 : kindAt out n = 1
    · by_cases h2 : firstF out ((ents es).take n) d = none
      · rw [if_pos ⟨h1, h2⟩]
        by_cases e : b = d
        · subst e; simp [h1, h2]
        · have e' : ¬ d = b := fun h => e h.symm
          simp [e, e']
      · rw [if_neg (fun h => h2 h.2)]
        by_cases e : b = d
        · subst e
          obtain ⟨v, hv⟩ := Option.ne_none_iff_exists'.1 h2
          simp [hv]
        · have e' : ¬ d = b := fun h => e h.symm
          simp [e']
    · rw [if_neg (fun h => h1 h.1)]
      simp [h1]
theorem firstF_all (ns nt : List Node) (ds es : List ByteArray) (b : ByteArray) : firstF (upto2 ns nt ds es es.length).1 (ents es) b = srcOf es (upto2 ns nt ds es es.length).1 b := by
  have h := firstF_take (es := es) (upto2 ns nt ds es es.length).1 es.length (Nat.le_refl _) b
  rw [List.take_of_length_le (by rw [ents_len]; exact Nat.le_refl _)] at h
  rw [h]
  unfold srcOf ofKind
  cases hq : (List.range es.length).find? (fun g => decide (es[g]? = some b) && decide (kindAt (upto2 ns nt ds es es.length).1 g = 1)) with
  | some g => rfl
  | none =>
    symm
    rw [List.find?_eq_none]
    intro g _ hg
    rw [Bool.and_eq_true, decide_eq_true_eq, decide_eq_true_eq] at hg
    rcases upto2_kind ns nt ds es g es.length (Nat.le_refl _) with e | e <;> rw [e] at hg <;> cases hg.2
/-- The third round, over whatever entries; none: a content lacks. -/
def fold3 {es : List ByteArray} (sd : List ByteArray) (out : List Src) (pre : List (Ent es)) : Option (List Src) := pre.foldl (fun o x => match o with
  | some o => step3 es sd o x.1.1 x.1.2
  | none => none) (some out)
theorem fold3_snoc {es : List ByteArray} (sd : List ByteArray) (out : List Src) (pre : List (Ent es)) (x : Ent es) : fold3 sd out (pre ++ [x]) = match fold3 sd out pre with
  | some o => step3 es sd o x.1.1 x.1.2
  | none => none := by simp [fold3]
theorem fold3_take (ns nt : List Node) (ds es sd : List ByteArray) : ∀ n, n ≤ es.length → fold3 sd (upto2 ns nt ds es es.length).1 ((ents es).take n) = upto3 ns nt ds es sd n
  | 0, _ => by rw [List.take_zero]; rfl
  | n + 1, h => by
    obtain ⟨d, hd⟩ : ∃ d, es[n]? = some d := ⟨_, List.getElem?_eq_getElem (show n < es.length by omega)⟩
    rw [ents_take hd, fold3_snoc, fold3_take ns nt ds es sd n (by omega), upto3, hd]
    cases upto3 ns nt ds es sd n <;> rfl
theorem fold3_all (ns nt : List Node) (ds es sd : List ByteArray) : fold3 sd (upto2 ns nt ds es es.length).1 (ents es) = upto3 ns nt ds es sd es.length := by
  have h := fold3_take ns nt ds es sd es.length (Nat.le_refl _)
  rwa [List.take_of_length_le (by rw [ents_len]; exact Nat.le_refl _)] at h
theorem fold3_none {es : List ByteArray} (sd : List ByteArray) (out : List Src) (pre post : List (Ent es)) (h : fold3 sd out pre = none) : fold3 sd out (pre ++ post) = none := by
  induction post generalizing pre with
  | nil => rw [List.append_nil]; exact h
  | cons x t ih =>
    rw [show pre ++ x :: t = (pre ++ [x]) ++ t by simp]
    exact ih _ (by rw [fold3_snoc, h])
end Go.Proofs.Ytcnpncieibmngaa
