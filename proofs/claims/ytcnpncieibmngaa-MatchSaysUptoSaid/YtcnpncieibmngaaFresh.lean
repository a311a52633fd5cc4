/- match.Fresh: the contents that no file of s has, each once, in memory of the caller's own. -/
import Derived.Test.YtcnpncieibmngaaLoopC
import Derived.Test.YtcnpncieibmngaaConvS
import Derived.Test.YtcnpncieibmngaaOpenS
import Derived.Test.YtcnpncieibmngaaMatchW
namespace Go.Proofs.Ytcnpncieibmngaa
open Go.RowKit Go.Shelf

attribute [local go_sem] Oper.semAt_some

theorem Try.bsT : ElemT Try.prog 36 45 1 24 := ElemT.mk' (z := .slice none 0 0) Try.underlying36 (by kernel_rfl) rfl (by decide)
theorem wpListIn_append_oneF {F : Fence} {nF : Nat} {P : Program} {w : World} {ops : Array Oper} {rest : List Oper} {o : Oper} {a : Act} {Q : Exit → Act → World → Prop} (hgd : o.guard = none) (s x : Operand) (t : TypeId) (ho : o.op = .call { callee := .builtin .append, args := #[s, x], argTypes := #[t, t] })
    {e sz by_ : Nat} (T : ElemT P t e sz by_) {base : Nat} {A : Option Addr} {n c : Nat} {L : List Value} (hs : a.eval s = .slice A n c) (hown : w.ownsRow base e sz (.slice A n c) n L)
    (cs : Array Value) {N : Nat} (hx : a.eval x = .slice (some ⟨N, 0, none⟩) 1 1) (hN : N = w.heap.size) (hl : cs.size = sz) (h1 : ∀ u ∈ cs.toList, u.oneCell' = true) (h63 : n + 1 ≤ maxLen) (hb : (n + 1) * by_ ≤ 140737488355328) (hbase : base ≤ w.heap.size)
    (h : ∀ g c' w', w'.ownsRow base e sz (.slice (some ⟨g, 0, none⟩) (n + 1) c') (n + 1) (L ++ cs.toList) → w.grownBy w' (blkOf A) → (blkOf A = some g ∨ w.heap.size < g) → wpListIn F nF P ops Q rest (a.put o.dst (.slice (some ⟨g, 0, none⟩) (n + 1) c')) w') :
    wpListIn F nF P ops Q (o :: rest) a (w.alloc (.cells cs e)) := by
  subst hN
  refine wpListIn_plain hgd fun K hK' => ?_
  obtain ⟨g, c', w', hrun, h2, h3, h4⟩ := run_append_one (P := P) (w := w) (ty := o.type) T hown cs hl h1 h63 hb hbase
  unfold Oper.wpIn
  refine ⟨?_, ?_⟩
  · simp [Oper.about, ho, resolve, Target.leads, Sem.run_pure]
  · rw [Oper.semAt_plain F _ _ (by rw [ho]; intro c hc'; cases hc')]
    simp [execOp, ho, resolve, invoke, builtin, hs, hx, hrun, Result.andThen]
    exact hK' _ _ (h g c' w' h2 h3 h4)
/-- A list of contents, each in a row of its own. -/
structure CRows (W : World) (base : Nat) (A : Option Addr) (n c : Nat) (ss : List SC) (xs : List ByteArray) : Prop where
  len : ss.length = n
  dlen : xs.length = n
  own : W.ownsRow base 45 1 (.slice A n c) n (ss.flatMap SC.list)
  row : ∀ (k : Nat) (x : SC) (d : ByteArray), ss[k]? = some x → xs[k]? = some d → ∃ g cap, x = ⟨some ⟨g, 0, none⟩, d.size, cap⟩ ∧ base ≤ g ∧ ConvAt W g cap d
  apart : ∀ (i j : Nat) (x y : SC), ss[i]? = some x → ss[j]? = some y → i ≠ j → ∀ g, blkOf x.A = some g → blkOf y.A ≠ some g
theorem CRows.nil (W : World) (base : Nat) : CRows W base none 0 0 [] [] := ⟨rfl, rfl, World.ownsRow_nil _ _ _ _, fun k x d h => (by simp at h), fun i j x y h => (by simp at h)⟩
theorem CRows.keep {W W' : World} {base n c : Nat} {A : Option Addr} {ss : List SC} {xs : List ByteArray} (h : CRows W base A n c ss xs) (hk : ∀ (g : Nat) (cs : Array Value) (t : TypeId) (p : Nat × Nat), base ≤ g → W.heap[g]? = some (.cells cs t p) → W'.heap[g]? = W.heap[g]?) : CRows W' base A n c ss xs := by
  refine { h with own := ?_, row := fun k x d hx hd => ?_ }
  · refine own_keep h.own fun g o e => ?_
    rcases h.own.2 with ⟨h', _⟩ | ⟨g', cap, cur, hv, hg, hh, _⟩
    · injection h' with h'; rw [h'] at e; cases e
    · injection hv with hv
      rw [hv] at e
      injection e with e
      injection e with e
      subst e
      exact hk _ _ _ _ hg hh
  · obtain ⟨g, cap, e, hb, hc⟩ := h.row k x d hx hd
    obtain ⟨cur, hh, hr⟩ := hc.row
    exact ⟨g, cap, e, hb, hc.keep (hk _ _ _ _ hb hh)⟩
theorem CRows.stay {W W' : World} {base n c : Nat} {A : Option Addr} {ss : List SC} {xs : List ByteArray} (h : CRows W base A n c ss xs) (hc : CellsStay W W') : CRows W' base A n c ss xs :=
  h.keep fun g cs t p _ hh => (hc.2 g cs t p hh).trans hh.symm
theorem CRows.below {W W' : World} {base n c : Nat} {A : Option Addr} {ss : List SC} {xs : List ByteArray} (h : CRows W base A n c ss xs) (hb : Below W.heap.size W W') : CRows W' base A n c ss xs :=
  h.keep fun g _ _ _ _ hh => hb.block g (Array.getElem?_eq_some_iff.1 hh).1
theorem CRows.grown_map {W W' : World} {base n c m : Nat} {A : Option Addr} {ss : List SC} {xs : List ByteArray} (h : CRows W base A n c ss xs) (hg : W.grownBy W' (some m)) (hm : ∃ ms ck, W.heap[m]? = some (.map ms ck)) : CRows W' base A n c ss xs :=
  h.keep fun g cs t p _ hh => hg.block g (Array.getElem?_eq_some_iff.1 hh).1 fun e => by
    injection e with e
    obtain ⟨ms, ck, hmm⟩ := hm
    rw [e, hmm] at hh
    cases hh
theorem CRows.grown_none {W W' : World} {base n c : Nat} {A : Option Addr} {ss : List SC} {xs : List ByteArray} (h : CRows W base A n c ss xs) (hg : W.grownBy W' none) : CRows W' base A n c ss xs :=
  h.keep fun g cs t p _ hh => hg.block g (Array.getElem?_eq_some_iff.1 hh).1 (by simp)
theorem CRows.grown_blk {W W' : World} {base n c m : Nat} {A : Option Addr} {ss : List SC} {xs : List ByteArray} (h : CRows W base A n c ss xs) (hg : W.grownBy W' (some m)) (hm : m < base) : CRows W' base A n c ss xs :=
  h.keep fun g cs t p hb hh => hg.block g (Array.getElem?_eq_some_iff.1 hh).1 fun e => by injection e with e; omega
/-- One content more. -/
theorem CRows.snoc {W V w6 : World} {base n c g0 cap g6 c6 : Nat} {A : Option Addr} {ss : List SC} {xs : List ByteArray} {d : ByteArray} (h : CRows W base A n c ss xs) (hb : base ≤ W.heap.size) (hgV : W.grownBy V none) (hg0 : g0 = W.heap.size) (hC : ConvAt V g0 cap d)
    (ho : w6.ownsRow base 45 1 (.slice (some ⟨g6, 0, none⟩) (n + 1) c6) (n + 1) (ss.flatMap SC.list ++ [.slice (some ⟨g0, 0, none⟩) d.size cap])) (hg : V.grownBy w6 (blkOf A)) : CRows w6 base (some ⟨g6, 0, none⟩) (n + 1) c6 (ss ++ [⟨some ⟨g0, 0, none⟩, d.size, cap⟩]) (xs ++ [d]) := by
  have hA : ∀ (g : Nat) (cs : Array Value) (p : Nat × Nat), V.heap[g]? = some (.cells cs 5 p) → w6.heap[g]? = V.heap[g]? := fun g cs p hh => hg.block g (Array.getElem?_eq_some_iff.1 hh).1 fun e => by
    rcases h.own.2 with ⟨h', _⟩ | ⟨g', cap', cur, hv, hg', hh', _⟩
    · injection h' with h'; rw [h'] at e; cases e
    · injection hv with hv
      rw [hv] at e
      injection e with e
      have e' : g = g' := e
      have h2 := (hgV.block g' (Array.getElem?_eq_some_iff.1 hh').1 (by simp)).trans hh'
      rw [← e', hh] at h2
      injection h2 with h2
      injection h2 with _ h2
      exact absurd h2 (by decide)
  have split : ∀ (k : Nat) (x : SC), (ss ++ [(⟨some ⟨g0, 0, none⟩, d.size, cap⟩ : SC)])[k]? = some x → (k < n ∧ ss[k]? = some x) ∨ (k = n ∧ x = ⟨some ⟨g0, 0, none⟩, d.size, cap⟩) := fun k x hk => by
    rcases Nat.lt_trichotomy k ss.length with e | e | e
    · left; rw [List.getElem?_append_left e] at hk; exact ⟨by rw [← h.len]; exact e, hk⟩
    · right; subst e; simp at hk; exact ⟨h.len, hk.symm⟩
    · rw [List.getElem?_eq_none (by simp; omega)] at hk; cases hk
  have low : ∀ (k : Nat) (x : SC) (g : Nat), ss[k]? = some x → blkOf x.A = some g → g < W.heap.size := fun k x g hx hgx => by
    obtain ⟨d', hd'⟩ : ∃ d', xs[k]? = some d' := ⟨_, List.getElem?_eq_getElem (by rw [h.dlen, ← h.len]; exact (List.getElem?_eq_some_iff.1 hx).1)⟩
    obtain ⟨g', cap', e, _, hc⟩ := h.row k x d' hx hd'
    subst e
    simp only [blkOf, Option.some.injEq] at hgx
    subst hgx
    exact hc.lt
  refine ⟨by rw [List.length_append, h.len]; rfl, by rw [List.length_append, h.dlen]; rfl, by rw [List.flatMap_append]; exact ho, fun k x e hx he => ?_, fun i j x y hx hy hij g hgx hgy => ?_⟩
  · rcases split k x hx with ⟨hk, hx2⟩ | ⟨rfl, rfl⟩
    · rw [List.getElem?_append_left (by rw [h.dlen]; exact hk)] at he
      obtain ⟨g, cap', e1, e2, hc⟩ := h.row k x e hx2 he
      obtain ⟨cur, hh, _⟩ := hc.row
      have h2 := hgV.block g hc.lt (by simp)
      exact ⟨g, cap', e1, e2, (hc.keep h2).keep (hA g cur _ (h2.trans hh))⟩
    · rw [List.getElem?_append_right (by rw [h.dlen]; exact Nat.le_refl _), h.dlen, Nat.sub_self] at he
      simp only [List.getElem?_cons_zero, Option.some.injEq] at he
      subst he
      obtain ⟨cur, hh, _⟩ := hC.row
      exact ⟨g0, cap, rfl, by omega, hC.keep (hA g0 cur _ hh)⟩
  · rcases split i x hx with ⟨hi, hx2⟩ | ⟨ei, ex⟩
    · rcases split j y hy with ⟨hj, hy2⟩ | ⟨ej, ey⟩
      · exact h.apart i j x y hx2 hy2 hij g hgx hgy
      · rw [ey] at hgy
        simp only [blkOf, Option.some.injEq] at hgy
        have := low i x g hx2 hgx
        omega
    · rcases split j y hy with ⟨hj, hy2⟩ | ⟨ej, ey⟩
      · rw [ex] at hgx
        simp only [blkOf, Option.some.injEq] at hgx
        have := low j y g hy2 hgy
        omega
      · omega
/-- How often a content has come up. -/
def cntP {ds : List ByteArray} (pre : List (Ent ds)) (k : List UInt8) : Int := ((pre.filter fun x => decide (x.1.2.data.toList = k)).length : Nat)
theorem cntP_snoc {ds : List ByteArray} (pre : List (Ent ds)) (x : Ent ds) : cntP (pre ++ [x]) = fun k => if k = x.1.2.data.toList then cntP pre x.1.2.data.toList + 1 else cntP pre k := by
  funext k
  unfold cntP
  rw [List.filter_append, List.length_append]
  by_cases e : k = x.1.2.data.toList
  · subst e; simp
  · have : ¬ x.1.2.data.toList = k := fun h => e h.symm
    simp [e, this]
theorem cntP_le {ds : List ByteArray} (pre : List (Ent ds)) (k : List UInt8) : 0 ≤ cntP pre k ∧ cntP pre k ≤ pre.length := by
  unfold cntP
  have := List.length_filter_le (fun x : Ent ds => decide (x.1.2.data.toList = k)) pre
  omega
theorem cntP_zero {ds : List ByteArray} (pre : List (Ent ds)) (b : ByteArray) : cntP pre b.data.toList = 0 ↔ b ∉ pre.map (·.1.2) := by
  unfold cntP
  rw [show (0 : Int) = ((0 : Nat) : Int) from rfl, Int.natCast_inj, List.length_eq_zero_iff, List.filter_eq_nil_iff]
  constructor
  · intro h hm
    obtain ⟨x, hx, e⟩ := List.mem_map.1 hm
    exact h x hx (by rw [← e]; simp)
  · intro h x hx e
    exact h (List.mem_map.2 ⟨x, hx, ba_ext (of_decide_eq_true e)⟩)
theorem ents_map (ds : List ByteArray) : (ents ds).map (·.1.2) = ds := by
  apply List.ext_getElem?
  intro i
  rw [List.getElem?_map]
  by_cases h : i < ds.length
  · rw [ents_get (List.getElem?_eq_getElem h)]; exact (List.getElem?_eq_getElem h).symm
  · rw [List.getElem?_eq_none (by rw [ents_len]; omega), List.getElem?_eq_none (by omega)]; rfl
/-- What stands while Fresh counts. -/
structure FI (w : World) (t : TV) (sx mb N : Nat) (f : List UInt8 → Int) (Ds : List Nat) (W : World) : Prop where
  below : Below w.heap.size w W
  km : KM W mb N f
  sB : Blk W sx 74 #[.map (some mb)]
  tB : Blk W (w.heap.size + 1) 25 #[.slice t.NA t.nn t.nc, .slice t.FA t.fn t.fc]
  marks : ∀ D ∈ Ds, w.heap.size ≤ D ∧ W.heap[D]? = some (.deferred (some []))
theorem KM.isMap {W : World} {b n : Nat} {f : List UInt8 → Int} (h : KM W b n f) : ∃ ms ck, W.heap[b]? = some (.map ms ck) := by
  obtain ⟨D, _, ⟨ms, ck, hb, _⟩, _⟩ := h
  exact ⟨ms, ck, hb⟩
theorem FI.ownFrom {ds : List ByteArray} {w : World} {t : TV} {sx mb B : Nat} {N : List (Ent ds) → Nat} {f : List (Ent ds) → List UInt8 → Int} {Ds : List Nat} (hw : w.heap.size ≤ B) (hm : mb < B) (hD : ∀ D ∈ Ds, D < B) : OwnFrom B (fun (pre : List (Ent ds)) W => FI w t sx mb (N pre) (f pre) Ds W) := fun pre W W' row hs hg hr => by
  obtain ⟨hc, hk⟩ := turn_stay hg hr
  exact ⟨hs.below.trans (below_grown hg hs.below.size fun g e => Nat.le_trans hw (hr g e).1), hs.km.kept hg (fun e => by have := (hr mb e.symm).1; omega), hc.blk hs.sB, hc.blk hs.tB, fun D hm' => ⟨(hs.marks D hm').1, (hk D (hD D hm') (Array.getElem?_eq_some_iff.1 (hs.marks D hm').2).1).trans (hs.marks D hm').2⟩⟩
theorem FI.still {w : World} {t : TV} {sx mb N : Nat} {f : List UInt8 → Int} {Ds : List Nat} {W W' : World} (h : FI w t sx mb N f Ds W) (hg : W.grownBy W' none) : FI w t sx mb N f Ds W' :=
  ⟨h.below.trans (below_grown hg h.below.size fun g e => by cases e), h.km.kept hg (by simp), h.sB.grown hg (by simp), h.tB.grown hg (by simp), fun D hD => ⟨(h.marks D hD).1, (hg.block D (Array.getElem?_eq_some_iff.1 (h.marks D hD).2).1 (by simp)).trans (h.marks D hD).2⟩⟩
theorem wf_i64 (v : Int) (h0 : -9223372036854775808 ≤ v) (h1 : v ≤ 9223372036854775807) : (Lit.int .i64 v).wf = true := by
  have h2 : IntKind.i64.max = 9223372036854775807 := by decide
  have h3 : IntKind.i64.min = -9223372036854775808 := by decide
  simp only [Lit.wf, h2, h3, Bool.and_eq_true, decide_eq_true_eq]
  omega
theorem ent_small {w : World} {s : TV} {ds : List ByteArray} (h : TreeD w s ds) (G : Good s) {i : Nat} {b : ByteArray} (hx : ds[i]? = some b) : b.size ≤ maxLen := by
  have hkl : i < s.files.length := by rw [← h.dat.len]; exact (List.getElem?_eq_some_iff.1 hx).1
  obtain ⟨f, hf⟩ : ∃ f, s.files[i]? = some f := ⟨_, List.getElem?_eq_getElem hkl⟩
  have h1 := (h.dat.at_ _ f _ hf hx).1
  have h2 := G.small f (List.mem_of_getElem? hf)
  unfold maxLen
  omega
/-- One count more. -/
theorem FI.step {w : World} {t : TV} {sx mb N : Nat} {f f' : List UInt8 → Int} {Ds : List Nat} {W W' : World} (h : FI w t sx mb N f Ds W) (hk : KM W' mb (N + 1) f') (hg : W.grownBy W' (some mb)) (hmb : w.heap.size ≤ mb) : FI w t sx mb (N + 1) f' Ds W' := by
  obtain ⟨ms, ck, hmm⟩ := h.km.isMap
  have key : ∀ {g : Nat} {o : Obj}, W.heap[g]? = some o → (∀ ms ck, o ≠ .map ms ck) → W'.heap[g]? = some o := fun {g o} ho hne => (hg.block g (Array.getElem?_eq_some_iff.1 ho).1 fun e => by
    injection e with e
    rw [e, hmm] at ho
    injection ho with ho
    exact hne _ _ ho.symm).trans ho
  exact ⟨h.below.trans (below_grown hg h.below.size fun g e => by injection e with e; omega), hk, key h.sB (fun _ _ h => by cases h), key h.tB (fun _ _ h => by cases h), fun D hD => ⟨(h.marks D hD).1, key (h.marks D hD).2 (fun _ _ h => by cases h)⟩⟩
theorem FI.row {w : World} {t : TV} {sx mb N n c base : Nat} {f : List UInt8 → Int} {Ds : List Nat} {W V : World} {A : Option Addr} {L : List Value} (h : FI w t sx mb N f Ds W) (ho : W.ownsRow base 45 1 (.slice A n c) n L) (hg : W.grownBy V (blkOf A)) (hb : w.heap.size ≤ base) : FI w t sx mb N f Ds V := by
  have hno : ∀ g : Nat, some g = blkOf A → ∃ cs, W.heap[g]? = some (.cells cs 45 (0, 0)) := fun g e => by
    rcases ho.2 with ⟨h', _⟩ | ⟨g', cap, cur, hv, _, hh, _⟩
    · injection h' with h'; rw [h'] at e; cases e
    · injection hv with hv
      rw [hv] at e
      injection e with e
      have e' : g = g' := e
      exact ⟨cur, by rw [e']; exact hh⟩
  refine ⟨h.below.trans (below_grown hg h.below.size fun g e => Nat.le_trans hb (own_blk1 ho g e)), h.km.kept hg (fun e => ?_), h.sB.grown hg (h.sB.ne_row ho (by decide)), h.tB.grown hg (h.tB.ne_row ho (by decide)), fun D hD => ⟨(h.marks D hD).1, (hg.block D (Array.getElem?_eq_some_iff.1 (h.marks D hD).2).1 (fun e => ?_)).trans (h.marks D hD).2⟩⟩
  · obtain ⟨cs, hh⟩ := hno mb e
    obtain ⟨ms, ck, hmm⟩ := h.km.isMap
    rw [hmm] at hh; cases hh
  · obtain ⟨cs, hh⟩ := hno D e
    rw [(h.marks D hD).2] at hh; cases hh
theorem setCell_grownF (w : World) (a : Addr) (v : Value) : w.grownBy (w.setCell a v) (some a.block) :=
  ⟨rfl, rfl, rfl, by simp [World.setCell], fun k _ hne => heap_setCell_other w a k v fun e => hne (by rw [e])⟩
theorem FI.set {w : World} {t : TV} {sx mb N lx : Nat} {f : List UInt8 → Int} {Ds : List Nat} {W : World} {cs : Array Value} (h : FI w t sx mb N f Ds W) (hL : Blk W lx 36 cs) (hb : w.heap.size ≤ lx) (v : Value) : FI w t sx mb N f Ds (W.setCell ⟨lx, 0, none⟩ v) := by
  have hg := setCell_grownF W ⟨lx, 0, none⟩ v
  have key : ∀ {g : Nat} {o : Obj}, W.heap[g]? = some o → o ≠ .cells cs 36 (0, 0) → ¬ some g = some lx := fun {g o} ho hne e => by
    injection e with e
    rw [e] at ho
    exact hne (Option.some.inj (ho.symm.trans hL))
  obtain ⟨ms, ck, hmm⟩ := h.km.isMap
  refine ⟨h.below.trans (below_grown hg h.below.size fun g e => by injection e with e; have e' : lx = g := e; omega), h.km.kept hg (key hmm (fun h => by cases h)), h.sB.grown hg (key h.sB (fun h => by injection h with _ h; exact absurd h (by decide))), h.tB.grown hg (key h.tB (fun h => by injection h with _ h; exact absurd h (by decide))), fun D hD => ⟨(h.marks D hD).1, (hg.block D (Array.getElem?_eq_some_iff.1 (h.marks D hD).2).1 (key (h.marks D hD).2 (fun h => by cases h))).trans (h.marks D hD).2⟩⟩
theorem CRows.grown_var {W W' : World} {base n c lx : Nat} {A : Option Addr} {ss : List SC} {xs : List ByteArray} {cs0 : Array Value} (h : CRows W base A n c ss xs) (hg : W.grownBy W' (some lx)) (hL : Blk W lx 36 cs0) : CRows W' base A n c ss xs := by
  refine { h with own := ?_, row := fun k x d hx hd => ?_ }
  · exact own_keep h.own fun g o e => hg.block g (own_lt2 (by rw [← e]; exact h.own)).2.1 (fun e2 => hL.ne_row h.own (by decide) (by rw [← e2, e]; rfl))
  · obtain ⟨g, cap, e, hb, hc⟩ := h.row k x d hx hd
    obtain ⟨cur, hh, _⟩ := hc.row
    refine ⟨g, cap, e, hb, hc.keep (hg.block g hc.lt fun e2 => ?_)⟩
    injection e2 with e2
    rw [e2] at hh
    have h3 := hh.symm.trans hL
    injection h3 with h3
    injection h3 with _ h3
    exact absurd h3 (by decide)
theorem KeepsFrom.of_row {B base e sz n c : Nat} {W V : World} {A : Option Addr} {L : List Value} (ho : W.ownsRow base e sz (.slice A n c) n L) (hg : W.grownBy V (blkOf A)) : KeepsFrom B W V :=
  ⟨hg.size, fun k o _ hk hoc => (hg.block k (Array.getElem?_eq_some_iff.1 hk).1 fun e2 => by
    rcases ho.2 with ⟨h', _⟩ | ⟨g', cap, cur, hv, _, hh, _⟩
    · injection h' with h'; rw [h'] at e2; cases e2
    · injection hv with hv
      rw [hv] at e2
      injection e2 with e2
      have e' : k = g' := e2
      rw [e', hh] at hk
      injection hk with hk
      rw [← hk] at hoc
      cases hoc).trans hk⟩
/-- The list under way, in its variable. -/
def FL (base lx N : Nat) (xs : List ByteArray) (W : World) : Prop := ∃ (A : Option Addr) (n c : Nat) (ss : List SC), Blk W lx 36 #[.slice A n c] ∧ CRows W base A n c ss xs ∧ n ≤ N
theorem FL.ownFrom {ds : List ByteArray} {base lx B : Nat} {N : List (Ent ds) → Nat} {xs : List (Ent ds) → List ByteArray} : OwnFrom B (fun (pre : List (Ent ds)) W => FL base lx (N pre) (xs pre) W) := fun pre W W' row hs hg hr => by
  obtain ⟨hc, hk⟩ := turn_stay hg hr
  obtain ⟨A, n, c, ss, h1, h2, h3⟩ := hs
  exact ⟨A, n, c, ss, hc.blk h1, h2.stay hc, h3⟩
/-- What holds where a content more has been put down. -/
structure FreshStep (w : World) (t : TV) (sx mb N : Nat) (f : List UInt8 → Int) (Ds : List Nat) (W : World) (B lx n g6 c6 : Nat) (ss : List SC) (xs : List ByteArray) (v0 : Value) (w6 : World) : Prop where
  l6 : Blk w6 lx 36 #[v0]
  fi : FI w t sx mb N f Ds (w6.setCell ⟨lx, 0, none⟩ (.slice (some ⟨g6, 0, none⟩) n c6))
  cr : CRows (w6.setCell ⟨lx, 0, none⟩ (.slice (some ⟨g6, 0, none⟩) n c6)) w.heap.size (some ⟨g6, 0, none⟩) n c6 ss xs
  kp : KeepsFrom B W (w6.setCell ⟨lx, 0, none⟩ (.slice (some ⟨g6, 0, none⟩) n c6))
  l9 : Blk (w6.setCell ⟨lx, 0, none⟩ (.slice (some ⟨g6, 0, none⟩) n c6)) lx 36 #[.slice (some ⟨g6, 0, none⟩) n c6]
  bw : Below w.heap.size W (w6.setCell ⟨lx, 0, none⟩ (.slice (some ⟨g6, 0, none⟩) n c6))
/-- What Fresh hands back. -/
def FreshRes (E : Int) (xs : List ByteArray) (w : World) (e : Ending) (w' : World) : Prop :=
  ∃ (A : Option Addr) (n c : Nat) (ss : List SC), e = .returned (.tuple #[.slice A n c, .int .i64 E]) ∧ CRows w' w.heap.size A n c ss xs ∧ Below w.heap.size w w'
set_option maxRecDepth 100000 in
set_option maxHeartbeats 4000000 in
theorem fresh_bad (s t : TV) (w : World) (hs : TreeAt w s) (ht : TreeAt w t) (E : Int) (hE : checksE s t = E) (h0 : E ≠ 0) : Calls Try.prog 21 #[s.val, t.val] w (FreshRes E [] w) := by
  have hck : ∀ W, Below w.heap.size w W → Calls Try.prog 31 #[s.val, t.val] W (IntRes E W) := fun W hW => by
    rw [← hE]
    exact checked_any s t W (hs.keep hW) (ht.keep hW)
  have hB1 := (Blk.new w 25 #[.slice s.NA s.nn s.nc, .slice s.FA s.fn s.fc]).alloc (.cells #[.slice t.NA t.nn t.nc, .slice t.FA t.fn t.fc] 25)
  have hB2 := Blk.new (w.alloc (.cells #[.slice s.NA s.nn s.nc, .slice s.FA s.fn s.fc] 25)) 25 #[.slice t.NA t.nn t.nc, .slice t.FA t.fn t.fc]
  have hb := ((Below.refl w.heap.size w).alloc (Nat.le_refl _) (.cells #[.slice s.NA s.nn s.nc, .slice s.FA s.fn s.fc] 25)).alloc (by simp) (.cells #[.slice t.NA t.nn t.nc, .slice t.FA t.fn t.fc] 25)
  simp only [World.size_alloc] at hB2
  have HCk := Lib.hid hck
  clear hck hs ht hE
  unfold TV.val at HCk ⊢
  have hne := bne_iff_ne.2 h0
  have heq := beq_eq_false_iff_ne.2 h0
  have H0 := Lib.hid h0; clear h0
  refine (callsIn_wide (n := 5)).1 ?_
  refine callsIn_of_wp_marks Try.func21 rfl trivial ?_ rfl
  refine wpIn_wide.2 ?_
  simp only [Try.ntmps21, List.size_toArray, List.length_cons, List.length_nil, Nat.reduceAdd, Nat.reduceSub, Array.replicate_succ, Array.replicate_zero, List.push_toArray, List.append_toArray, List.nil_append, List.cons_append]
  have b0 := hB1.cell 0; have b1 := hB1.cell 1; have t0 := hB2.cell 0; have t1 := hB2.cell 1
  have hbs := hb.size
  go_wp2_with (go_at_call 31; refine (HCk.out _ hb).mono ?_; rintro e w1 ⟨rfl, hb1⟩; replace hb := hb.trans (hb1.mono hbs))
  refine ⟨_, (results_tmp2 rfl _ _ _).trans rfl, none, 0, 0, [], rfl, CRows.nil _ _, hb⟩
set_option maxRecDepth 100000 in
set_option maxHeartbeats 8000000 in
theorem fresh_main (s t : TV) (ds es : List ByteArray) (w : World) (hs : TreeD w s ds) (ht : TreeD w t es) (c1 : checkE s = 0) (c2 : checkE t = 0) : Calls Try.prog 21 #[s.val, t.val] w (FreshRes 0 (freshL ds es) w) := by
  have hck : ∀ W, Below w.heap.size w W → Calls Try.prog 31 #[s.val, t.val] W (IntRes 0 W) := fun W hW => by
    have h := checked_any s t W (hs.tree.keep hW) (ht.tree.keep hW)
    unfold checksE at h
    rw [c1, c2, if_neg (by simp)] at h
    exact h
  have gs := good_of_loose (check_loose c1)
  have gt := good_of_loose (check_loose c2)
  have hsfn := gs.fn; have htfn := gt.fn
  have hel : es.length = t.fn := by rw [ht.dat.len, ht.tree.fl]
  have hdl : ds.length = s.fn := by rw [hs.dat.len, hs.tree.fl]
  have HCk := Lib.hid hck; have HGs := Lib.hid gs; have HGt := Lib.hid gt; have HEl := Lib.hid hel; have HDl := Lib.hid hdl
  have HTs := Lib.hid hs; have HTt := Lib.hid ht
  clear hck gs gt hel hdl hs ht c1 c2
  have hB1 := (Blk.new w 25 #[.slice s.NA s.nn s.nc, .slice s.FA s.fn s.fc]).alloc (.cells #[.slice t.NA t.nn t.nc, .slice t.FA t.fn t.fc] 25)
  have hB2 := Blk.new (w.alloc (.cells #[.slice s.NA s.nn s.nc, .slice s.FA s.fn s.fc] 25)) 25 #[.slice t.NA t.nn t.nc, .slice t.FA t.fn t.fc]
  have hb := ((Below.refl w.heap.size w).alloc (Nat.le_refl _) (.cells #[.slice s.NA s.nn s.nc, .slice s.FA s.fn s.fc] 25)).alloc (by simp) (.cells #[.slice t.NA t.nn t.nc, .slice t.FA t.fn t.fc] 25)
  simp only [World.size_alloc] at hB2
  have hmm := @run_makeMap Try.prog
  unfold TV.val at HCk ⊢
  refine (callsIn_wide (n := 5)).1 ?_
  refine callsIn_of_wp_marks Try.func21 rfl trivial ?_ rfl
  refine wpIn_wide.2 ?_
  simp only [Try.ntmps21, List.size_toArray, List.length_cons, List.length_nil, Nat.reduceAdd, Nat.reduceSub, Array.replicate_succ, Array.replicate_zero, List.push_toArray, List.append_toArray, List.nil_append, List.cons_append]
  have b0 := hB1.cell 0; have b1 := hB1.cell 1; have t0 := hB2.cell 0; have t1 := hB2.cell 1
  have hbs := hb.size
  have hBl1 := hB1.lt; have hBl2 := hB2.lt
  go_upto_region 4 with (go_at_call 31; refine (HCk.out _ hb).mono ?_; rintro e w1 ⟨rfl, hb1⟩; replace hB1 := hB1.below hb1 hBl1; replace hB2 := hB2.below hb1 hBl2; replace hb := hb.trans (hb1.mono hbs))
  clear b0 b1 t0 t1 hbs hb1 hBl1 hBl2
  go_upto_region 5 with (fail)
  have hM := KM.new w1
  have hg5 := World.grownBy_alloc w1 (.map #[] 0) none
  have hF := Blk.new (w1.alloc (.map #[] 0)) 74 #[.map (some w1.heap.size)]
  have hg6 := World.grownBy_alloc (w1.alloc (.map #[] 0)) (.cells #[.map (some w1.heap.size)] 74) none
  replace hM := hM.kept hg6 (by simp)
  obtain ⟨mb, hmb⟩ : ∃ g, w1.heap.size = g := ⟨_, rfl⟩
  obtain ⟨W6, hW6⟩ : ∃ W, (w1.alloc (.map #[] 0)).alloc (.cells #[.map (some w1.heap.size)] 74) = W := ⟨_, rfl⟩
  rw [World.size_alloc] at hF
  rw [hW6, hmb] at hF
  rw [hW6] at hM hg6
  rw [hmb] at hM
  have hg46 : w1.grownBy W6 none := grown_trans hg5 hg6
  have hb6 := hb.trans (below_grown hg46 hb.size (fun g e => by cases e))
  have hmbw : w.heap.size ≤ mb := by rw [← hmb]; exact hb.size
  replace hB1 := hB1.grown hg46 (by simp); replace hB2 := hB2.grown hg46 (by simp)
  rw [hmb] at hW6 ⊢
  rw [hW6]
  have HI6 := Lib.hid (show FI w t (mb + 1) mb 0 (fun _ => 0) [] W6 from ⟨hb6, hM, hF, hB2, fun D h => by cases h⟩)
  have t0 := hB1.cell 0; have t1 := hB1.cell 1
  have hbs6 := hb6.size
  have hsxl := hF.lt
  have hcont := contents_in 4 s W6
  unfold TV.val at hcont
  have HCo := Lib.hid (callsIn_wide.1 hcont)
  clear hcont hM hg5 hg6 hg46 hF hB2 hb hmb hW6 hmm hb6
  go_wp2_with (go_at_call 33; refine HCo.out.mono ?_; rintro e w7 ⟨rfl, rfl⟩)
  have hg7 := World.grownBy_alloc W6 (.cells s.cells 25) none
  have hT7 := Blk.new W6 25 s.cells
  have hI7 := HI6.out.still hg7
  obtain ⟨W7, hW7⟩ : ∃ W, W6.alloc (.cells s.cells 25) = W := ⟨_, rfl⟩
  obtain ⟨b7, hb7⟩ : ∃ b, W6.heap.size = b := ⟨_, rfl⟩
  rw [hW7] at hg7 hT7 hI7 ⊢
  rw [hb7] at hT7 ⊢
  have hsx7 : mb + 1 < W7.heap.size := Nat.lt_of_lt_of_le hsxl hg7.size
  have hbs7 : w.heap.size ≤ W7.heap.size := Nat.le_trans hbs6 hg7.size
  have HI7 := Lib.hid hI7; have HT7 := Lib.hid hT7
  clear hI7 hT7 hW7 hb7 hg7 hbs6 hsxl hB1 t0 t1 HI6 HCo
  refine contents_loop s ds b7 w.heap.size rfl HTs.out.tree.fl HTs.out.tree.fm HTs.out.dat.len (HTs.out.tree.fs.below HI7.out.below (Nat.le_refl _)) (fun k x d hx hd => ⟨(HTs.out.dat.at_ k x d hx hd).1, (HTs.out.dat.at_ k x d hx hd).2.below HI7.out.below (Nat.le_refl _)⟩) hbs7 HT7.out
    (fun pre W => FI w t (mb + 1) mb pre.length (cntP pre) [] W) (fun _ _ _ => False)
    (FI.ownFrom hbs7 (by omega) (fun D h => by cases h)) (fun _ => fun _ _ _ _ h _ _ => h) HI7.out ?ab ?done ?stop
  case ab =>
    apply Exists.intro
    refine ⟨?_, ?_⟩
    · intro l x W K hK
      simp only [encE]
      gi_wp2
      exact hK
    · rintro l pre x W hI hlen
      rw [ents_len, HDl.out] at hlen
      obtain ⟨⟨xi, xb⟩, hxe⟩ := x
      have hok := ent_small HTs.out HGs.out hxe
      have hlk := hI.km.look hok
      have hcp := cntP_le pre xb.data.toList
      have HSn := Lib.hid (cntP_snoc pre ⟨(xi, xb), hxe⟩)
      simp only at HSn
      obtain ⟨q, hq⟩ : ∃ q, cntP pre xb.data.toList = q := ⟨_, rfl⟩
      rw [hq] at hlk hcp HSn
      have hwf := wf_i64 (q + 1) (by omega) (by omega)
      have f0 := hI.sB.cell 0
      have hsl := hI.sB.lt
      have hwl := hI.below.size
      have HI := Lib.hid hI
      obtain ⟨w4, hput, hk4, hg4⟩ := hI.km.put hok (by unfold maxLen; omega) hwf
      have HK4 := Lib.hid hk4; have HG4 := Lib.hid hg4
      clear hI hq hk4 hg4
      gi_wp2
      have hk4 := HK4.out; have hg4 := HG4.out
      exact ⟨KeepsFrom.of_grownBy hg4 (fun j e => by injection e with e; omega), below_grown hg4 hwl (fun g e => by injection e with e; omega), (show FI w t (mb + 1) mb (pre ++ [(⟨(xi, xb), hxe⟩ : Ent ds)]).length (cntP (pre ++ [(⟨(xi, xb), hxe⟩ : Ent ds)])) [] w4 by rw [HSn.out, List.length_append]; exact HI.out.step hk4 hg4 hmbw)⟩
  case stop => exact fun D c pre W _ _ h _ => h.elim
  case done =>
    rintro D1 W hD1 hI hk1
    rw [ents_len] at hI
    have hD1b : w.heap.size ≤ D1 := Nat.le_trans hbs7 hD1
    have hD1l : D1 < W.heap.size := (Array.getElem?_eq_some_iff.1 hk1).1
    have hI1 : FI w t (mb + 1) mb ds.length (cntP (ents ds)) [D1] W := ⟨hI.below, hI.km, hI.sB, hI.tB, fun D hD => by
      simp only [List.mem_singleton] at hD
      subst hD
      exact ⟨hD1b, hk1⟩⟩
    have HI1 := Lib.hid hI1
    clear hI hk1 hI1 HI7 HT7
    go_upto_region 9 with (fail)
    have hgL := World.grownBy_alloc W (.cells #[.slice none 0 0] 36) none
    have hL := Blk.new W 36 #[.slice none 0 0]
    have hI8 := HI1.out.still hgL
    obtain ⟨W8, hW8⟩ : ∃ V, W.alloc (.cells #[.slice none 0 0] 36) = V := ⟨_, rfl⟩
    obtain ⟨lx, hlx⟩ : ∃ b, W.heap.size = b := ⟨_, rfl⟩
    rw [hW8] at hgL hL hI8 ⊢
    rw [hlx] at hL hD1l ⊢
    have hlxw : w.heap.size ≤ lx := by omega
    have hmlx : mb + 1 < lx := by omega
    have t0 := hI8.tB.cell 0; have t1 := hI8.tB.cell 1
    have hLl := hL.lt
    have hcont := contents_in 4 t W8
    unfold TV.val at hcont
    have HCo := Lib.hid (callsIn_wide.1 hcont)
    have HI8 := Lib.hid hI8
    clear hcont hW8 hlx hgL hI8 HI1
    go_wp2_with (go_at_call 33; refine HCo.out.mono ?_; rintro e w9 ⟨rfl, rfl⟩)
    clear t0 t1
    have hg9 := World.grownBy_alloc W8 (.cells t.cells 25) none
    have hT9 := Blk.new W8 25 t.cells
    have hI9 := HI8.out.still hg9
    replace hL := hL.grown hg9 (by simp)
    obtain ⟨W9, hW9⟩ : ∃ W, W8.alloc (.cells t.cells 25) = W := ⟨_, rfl⟩
    obtain ⟨b9, hb9⟩ : ∃ b, W8.heap.size = b := ⟨_, rfl⟩
    rw [hW9] at hg9 hT9 hI9 hL ⊢
    rw [hb9] at hT9 ⊢
    have hs9 : lx < W9.heap.size := hL.lt
    have HI9 := Lib.hid hI9; have HT9 := Lib.hid hT9; have HL := Lib.hid hL
    clear hI9 hT9 hW9 hb9 hg9 hLl hL HI8 HCo
    refine contents_loop t es b9 w.heap.size rfl HTt.out.tree.fl HTt.out.tree.fm HTt.out.dat.len (HTt.out.tree.fs.below HI9.out.below (Nat.le_refl _)) (fun k x d hx hd => ⟨(HTt.out.dat.at_ k x d hx hd).1, (HTt.out.dat.at_ k x d hx hd).2.below HI9.out.below (Nat.le_refl _)⟩) (by omega) HT9.out
      (fun pre W => FI w t (mb + 1) mb (ds.length + pre.length) (fun k => cntP (ents ds) k + cntP pre k) [D1] W ∧ FL w.heap.size lx pre.length (freshRun ds (pre.map (·.1.2))) W) (fun _ _ _ => False)
      (OwnFrom.and (FI.ownFrom (by omega) (by omega) (fun D h => by simp only [List.mem_singleton] at h; omega)) FL.ownFrom) (fun _ => fun _ _ _ _ h _ _ => h) ⟨(show FI w t (mb + 1) mb (ds.length + 0) (fun k => cntP (ents ds) k + cntP ([] : List (Ent es)) k) [D1] W9 by rw [show (fun k => cntP (ents ds) k + cntP ([] : List (Ent es)) k) = cntP (ents ds) from by funext k; simp [cntP]]; exact HI9.out), none, 0, 0, [], HL.out, CRows.nil _ _, Nat.le_refl _⟩ ?ab ?done ?stop
    case ab =>
      apply Exists.intro
      refine ⟨?_, ?_⟩
      · intro l x W K hK
        simp only [encE]
        gi_wp2
        exact hK
      · rintro l pre x W ⟨hI, hF⟩ hlen
        rw [ents_len, HEl.out] at hlen
        obtain ⟨⟨xi, xb⟩, hxe⟩ := x
        have hok := ent_small HTt.out HGt.out hxe
        have hlk := hI.km.look hok
        have hcp := cntP_le pre xb.data.toList
        have hcp2 := cntP_le (ents ds) xb.data.toList
        rw [ents_len] at hcp2
        have HZ := Lib.hid (show cntP (ents ds) xb.data.toList + cntP pre xb.data.toList = 0 ↔ ¬ (xb ∈ ds ∨ xb ∈ pre.map (·.1.2)) from by
          have h1 := cntP_zero (ents ds) xb
          have h2 := cntP_zero pre xb
          rw [ents_map] at h1
          constructor
          · intro h
            rintro (h3 | h3)
            · exact h1.1 (by omega) h3
            · exact h2.1 (by omega) h3
          · intro h
            have := h1.2 (fun h3 => h (.inl h3))
            have := h2.2 (fun h3 => h (.inr h3))
            omega)
        have HSn := Lib.hid (show (fun k => cntP (ents ds) k + cntP (pre ++ [⟨(xi, xb), hxe⟩]) k) = fun k => if k = xb.data.toList then cntP (ents ds) xb.data.toList + cntP pre xb.data.toList + 1 else cntP (ents ds) k + cntP pre k from by
          funext k
          rw [cntP_snoc]
          by_cases e : k = xb.data.toList
          · subst e; simp; omega
          · simp [e])
        have hdl : ds.length ≤ 256 := by rw [HDl.out]; exact hsfn
        obtain ⟨q, hq⟩ : ∃ q, cntP (ents ds) xb.data.toList + cntP pre xb.data.toList = q := ⟨_, rfl⟩
        have hq' := Lib.hid hq
        have hq0 : 0 ≤ q ∧ q ≤ 600 := by omega
        simp only [hq] at hlk HSn HZ
        have hwf := wf_i64 (q + 1) (by omega) (by omega)
        have f0 := hI.sB.cell 0
        have hsl := hI.sB.lt
        have hwl := hI.below.size
        obtain ⟨LA, ln, lc, ss, hL, hCR, hln⟩ := hF
        have HI := Lib.hid hI; have HCR := Lib.hid hCR
        clear hI hCR hcp hcp2 hq
        by_cases h0 : q = 0
        · have e0 : (q == 0) = true := beq_iff_eq.2 h0
          have hyes := HZ.out.1 h0
          subst h0
          have hsn1 := HSn.out
          rw [Int.zero_add] at hsn1
          have HSn1 := Lib.hid hsn1
          have hwf1 := wf_i64 1 (by omega) (by omega)
          clear hsn1 hwf
          obtain ⟨cap, V, hrun, hgV, hsV, hC⟩ := conv_bytes xb W
          have hoV := own_keep HCR.out.own fun g o e => hgV.block g (own_lt2 (by rw [← e]; exact HCR.out.own)).2.1 (by simp)
          have hlnn : ln ≤ 300 := by omega
          have hLV := hL.grown hgV (by simp)
          have qV := hLV.cell 0; have q0 := hL.cell 0; have hLl := hL.lt
          have hVs := hgV.size
          have fV := ((HI.out.still hgV).sB).cell 0
          have HoV := Lib.hid hoV; have HgV := Lib.hid hgV; have HC := Lib.hid hC; have HLV := Lib.hid hLV; have HYes := Lib.hid hyes
          clear hoV hgV hC hLV hL hyes hsV
          have Hfin : Hid (∀ g6 c6 w6, w6.ownsRow w.heap.size 45 1 (.slice (some ⟨g6, 0, none⟩) (ln + 1) c6) (ln + 1) (ss.flatMap SC.list ++ [.slice (some ⟨W.heap.size, 0, none⟩) xb.size cap]) → V.grownBy w6 (blkOf LA) → FreshStep w t (mb + 1) mb (ds.length + pre.length) (fun k => cntP (ents ds) k + cntP pre k) [D1] W W9.heap.size lx (ln + 1) g6 c6 (ss ++ [⟨some ⟨W.heap.size, 0, none⟩, xb.size, cap⟩]) (freshRun ds (pre.map (·.1.2)) ++ [xb]) (.slice LA ln lc) w6) := Lib.hid fun g6 c6 w6 ho6 hg6 => by
            have hL6 := HLV.out.grown hg6 (HLV.out.ne_row HoV.out (by decide))
            have hC8 := HCR.out.snoc hwl HgV.out rfl HC.out ho6 hg6
            have hg8 := setCell_grownF w6 ⟨lx, 0, none⟩ (.slice (some ⟨g6, 0, none⟩) (ln + 1) c6)
            exact ⟨hL6, ((HI.out.still HgV.out).row HoV.out hg6 (Nat.le_refl _)).set hL6 hlxw _, hC8.grown_var hg8 hL6, (KeepsFrom.of_grownBy HgV.out (fun j e => by cases e)).trans ((KeepsFrom.of_row HoV.out hg6).trans (KeepsFrom.of_grownBy hg8 (fun j e => by injection e with e; have e' : lx = j := e; omega))), hL6.set 0 _,
              ((below_grown HgV.out hwl (fun g e => by cases e)).trans (below_grown hg6 (Nat.le_trans hwl HgV.out.size) (fun g e => own_blk1 HoV.out g e))).setCell (p := ⟨lx, 0, none⟩) hlxw _⟩
          gi_wp2_with (gi_at_builtin; refine wpListIn_append_oneF rfl _ _ _ rfl Try.bsT rfl HoV.out #[.slice (some ⟨W.heap.size, 0, none⟩) xb.size cap] rfl (by simp) rfl (by simp [Value.oneCell']) (by unfold maxLen; omega) (by omega) (Nat.le_trans hwl hVs) ?_; intro g6 c6 w6 ho6 hg6 hat6; have hst := Hfin.out g6 c6 w6 ho6 hg6; have q1 := hst.l6.cell 0; have q1f := hst.l6.frozen 0; have hL6l := hst.l6.lt; have f8 := hst.fi.sB.cell 0; have hlk8 := hst.fi.km.look hok; simp only [hq'.out] at hlk8; obtain ⟨w4, hput, hk4, hg4⟩ := hst.fi.km.put hok (by unfold maxLen; omega) hwf1; have HK4 := Lib.hid hk4; have HG4 := Lib.hid hg4; have HSt := Lib.hid hst; clear hk4 hg4 hst ho6 hg6 hat6)
          have hk4 := HK4.out; have hg4 := HG4.out
          refine ⟨HSt.out.kp.trans (KeepsFrom.of_grownBy hg4 (fun j e => by injection e with e; omega)), HSt.out.bw.trans (below_grown hg4 HSt.out.fi.below.size (fun g e => by injection e with e; omega)), ⟨(show FI w t (mb + 1) mb (ds.length + (pre ++ [(⟨(xi, xb), hxe⟩ : Ent es)]).length) (fun k => cntP (ents ds) k + cntP (pre ++ [(⟨(xi, xb), hxe⟩ : Ent es)]) k) [D1] w4 by rw [HSn1.out, List.length_append, ← Nat.add_assoc]; exact HSt.out.fi.step hk4 hg4 hmbw), some ⟨g6, 0, none⟩, ln + 1, c6, ss ++ [⟨some ⟨W.heap.size, 0, none⟩, xb.size, cap⟩], HSt.out.l9.grown hg4 (fun e => by injection e with e; omega), ?_, by rw [List.length_append]; show ln + 1 ≤ pre.length + 1; omega⟩⟩
          rw [List.map_append, List.map_singleton, freshRun_snoc, if_neg HYes.out]
          exact HSt.out.cr.grown_map hg4 HSt.out.fi.km.isMap
        · have e0 : (q == 0) = false := beq_eq_false_iff_ne.2 h0
          obtain ⟨w4, hput, hk4, hg4⟩ := HI.out.km.put hok (by unfold maxLen; omega) hwf
          have hno := fun h => h0 (HZ.out.2 h)
          have HK4 := Lib.hid hk4; have HG4 := Lib.hid hg4; have HNo := Lib.hid hno; have HL' := Lib.hid hL
          clear hk4 hg4 h0 hno hL
          gi_wp2
          have hk4 := HK4.out; have hg4 := HG4.out
          refine ⟨KeepsFrom.of_grownBy hg4 (fun j e => by injection e with e; omega), below_grown hg4 hwl (fun g e => by injection e with e; omega), ⟨(show FI w t (mb + 1) mb (ds.length + (pre ++ [(⟨(xi, xb), hxe⟩ : Ent es)]).length) (fun k => cntP (ents ds) k + cntP (pre ++ [(⟨(xi, xb), hxe⟩ : Ent es)]) k) [D1] w4 by rw [HSn.out, List.length_append, ← Nat.add_assoc]; exact HI.out.step hk4 hg4 hmbw), LA, ln, lc, ss, HL'.out.grown hg4 (fun e => by injection e with e; omega), ?_, by rw [List.length_append]; exact Nat.le_trans hln (Nat.le_add_right _ _)⟩⟩
          rw [List.map_append, List.map_singleton, freshRun_snoc, if_pos (Classical.not_not.1 HNo.out)]
          exact HCR.out.grown_map hg4 HI.out.km.isMap
    case stop => exact fun D c pre W _ _ h _ => h.elim
    case done =>
      rintro D2 W hD2 ⟨hI, LA, ln, lc, ss, hL, hCR, _⟩ hk2
      rw [ents_map] at hCR
      have hbW := hI.below
      have hmk : ∀ D' ∈ [D2, D1], w.heap.size ≤ D' ∧ W.heap[D']? = some (.deferred (some [])) := fun D' hD' => by
        rcases List.mem_cons.1 hD' with rfl | h
        · exact ⟨by omega, hk2⟩
        · exact hI.marks D' h
      have hnd : [D2, D1].Nodup := by simp; omega
      have l0 := hL.cell 0
      have Hmk := Lib.hid hmk; have HCR := Lib.hid hCR; have HbW := Lib.hid hbW
      clear hmk hCR hI hbW
      go_wp2
      refine leaves_marks (n := 5) (base := w.heap.size) [D2, D1] W hnd Hmk.out ?_
      intro W' hB' hc'
      exact ⟨_, (results_tmp2 rfl _ _ _).trans rfl, LA, ln, lc, ss, rfl, HCR.out.stay ⟨hB'.size, hc'⟩, HbW.out.trans hB'⟩
/-- What match.Fresh says. -/
theorem fresh_any (s t : TV) (ds es : List ByteArray) (w : World) (hs : TreeD w s ds) (ht : TreeD w t es) :
    Calls Try.prog 21 #[s.val, t.val] w (FreshRes (checksE s t) (if checksE s t = 0 then freshL ds es else []) w) := by
  by_cases c1 : checkE s = 0
  · by_cases c2 : checkE t = 0
    · have h := fresh_main s t ds es w hs ht c1 c2
      have e : checksE s t = 0 := by unfold checksE; rw [c1, c2]; rfl
      rw [e, if_pos rfl]
      exact h
    · have e : checksE s t = checkE t := by unfold checksE; rw [c1]; rfl
      rw [e, if_neg c2]
      exact fresh_bad s t w hs.tree ht.tree _ e c2
  · have e : checksE s t = checkE s := by unfold checksE; rw [if_pos c1]
    rw [e, if_neg c1]
    exact fresh_bad s t w hs.tree ht.tree _ e c1
end Go.Proofs.Ytcnpncieibmngaa
