/- A loop over match.contents; the loop that puts the free files together. -/
import Derived.Test.YtcnpncieibmngaaMatchV
namespace Go.Proofs.Ytcnpncieibmngaa
open Go.RowKit Go.Shelf

theorem contents_loop {g : Operand} {p q : Tmp} {assign body : Code} {Q : Exit → Act → World → Prop} {a : Act} {w : World} (t : TV) (ds : List ByteArray) (Bs n₀ : Nat) (hg : a.eval g = .func (.func 48) #[] #[.pointer (some ⟨Bs, 0, none⟩)])
    (hfl : t.files.length = t.fn) (hfm : t.fn ≤ 9223372036854775807) (hdl : ds.length = t.files.length) (hfs : Sl w n₀ 2 t.FA t.fn (t.files.flatMap FC.list)) (hds : ∀ (k : Nat) (x : FC) (d : ByteArray), t.files[k]? = some x → ds[k]? = some d → d.size = x.n ∧ Sl w n₀ 1 x.A x.n (bytesC d)) (hn0 : n₀ ≤ w.heap.size) (hc : Blk w Bs 25 t.cells)
    (I : List (Ent ds) → World → Prop) (Ix : Code → List (Ent ds) → World → Prop) (hI : OwnFrom w.heap.size I) (hIx : ∀ c, OwnFrom w.heap.size (Ix c)) (h0 : I [] w)
    (hab : ∃ a₁ : Ent ds → Act, (∀ (l : Nat) (x : Ent ds) (W : World) (K : Act → World → Prop), K (a₁ x) W → assign.wpIn (Fence.wide.inRound l) 3 Try.prog (Exit.then K (fun _ _ _ => False)) { tmps := (#[p, q].zip (encE x)).foldl (fun t (p, v) => t.setIfInBounds p v) a.tmps, defers := [] } W) ∧
      (∀ (l : Nat) (pre : List (Ent ds)) (x : Ent ds) (W : World), I pre W → pre.length < (ents ds).length → body.wpIn (Fence.wide.inRound l) 3 Try.prog (ownPostG w.heap.size (Below n₀) I Ix (pre ++ [x]) W) (a₁ x) W))
    (hdone : ∀ (D : Nat) (W : World), w.heap.size ≤ D → I (ents ds) W → W.heap[D]? = some (.deferred (some [])) → Q .normal { a with defers := collected D :: a.defers } W)
    (hstop : ∀ (D : Nat) (c : Code) (pre : List (Ent ds)) (W : World), w.heap.size ≤ D → pre <+: ents ds → Ix c pre W → W.heap[D]? = some (.deferred (some [])) → c.wp Try.prog Q { a with defers := collected D :: a.defers } W) :
    (Code.rangeFunc g #[p, q] assign body).wp Try.prog Q a w := by
  obtain ⟨a₁, h1, h2⟩ := hab
  refine (wpIn_wide (n := 5)).1 ?_
  exact wpIn_rangeFunc_ownG_of_H rfl (by omega) (gf := 48) (lb := #[.pointer (some ⟨Bs, 0, none⟩)]) hg trivial (enters_of Try.func48 (by kernel_rfl) rfl)
    (contents_stops 4 (by omega) Bs n₀ t ds w hfl hfm hdl hfs hds hn0 hc) belowK_t (belowK_b hn0) (Below.refl _ _) (fun _ => rfl) I Ix hI hIx h0 a₁ h1 h2
    (fun D xs W hD hxs hi hk => by subst hxs; exact hdone D W hD hi hk) (fun D c pre W hD hp hi hk => wpIn_wide.2 (hstop D c pre W hD hp hi hk)) (fun W => Below.refl _ _)
theorem MM1.ownFrom {β : Type} {C : MC} {B : Nat} (o : β → List Src) (F : β → ByteArray → List Nat) (hB : C.fm < B) : OwnFrom B (fun (s : β) W => MM1 C W (o s) (F s)) := fun s W W' row hs hg hr => by
  obtain ⟨hc, hk⟩ := turn_stay hg hr
  obtain ⟨ms, ck, hmm⟩ := hs.isMap
  exact hs.turn hc (hk _ hB (Array.getElem?_eq_some_iff.1 hmm).1)
theorem FreeAt.ownFrom {β : Type} {b base B : Nat} (N : β → Nat) (F : β → ByteArray → List Nat) (hB : b < B) : OwnFrom B (fun (s : β) W => FreeAt W base b (N s) (F s)) := fun s W W' row hs hg hr => by
  obtain ⟨hc, hk⟩ := turn_stay hg hr
  obtain ⟨es, h1, h2, h3⟩ := hs
  refine ⟨es, h1.keep (hk _ hB h1.lt), h2, h3.keep fun b' A n c g hg' hA => ?_⟩
  obtain ⟨_, cur, hh⟩ := h3.row_lt hg' hA
  rw [hh]
  exact hc.2 _ _ _ _ hh
theorem MB.ownFrom {β : Type} {C : MC} {w0 : World} {rx ex B : Nat} {Ds : List Nat} (hB : C.base ≤ B) (hw : C.base ≤ w0.heap.size) (hD : ∀ D ∈ Ds, D < B) : OwnFrom B (fun (_ : β) W => MB C w0 rx ex Ds W) := fun _ W _ _ hs hg hr =>
  MB.turn (W := W) (B := B) hs hg hr hB (Nat.le_trans hw hs.below.size) hD
theorem IdxAt.ownFrom {β : Type} {b B : Nat} (N : β → Nat) (G : β → ByteArray → Option Nat) (hB : b < B) : OwnFrom B (fun (s : β) W => IdxAt W b (N s) (G s)) := fun s W W' row hs hg hr => by
  obtain ⟨_, hk⟩ := turn_stay hg hr
  exact hs.keep (hk _ hB hs.lt)
theorem MM2.ownFrom {β : Type} {C : MC} {D : MD} {B : Nat} (h1 : D.dm < B) (h2 : D.am < B) : OwnFrom B (fun (_ : β) W => MM2 C D W) := fun s W W' row hs hg hr => by
  obtain ⟨hc, hk⟩ := turn_stay hg hr
  exact MM2.turn (W := W) hs hc (hk _ h1 hs.dM.lt) (hk _ h2 hs.aM.lt)
/-- A file more that is free. -/
theorem build_step {C : MC} {W w3 W' : World} {out : List Src} {F : ByteArray → List Nat} (h : MM1 C W out F) {es : List (ByteArray × Value)} (hM : MapV strK W C.fm es) (hE : FreeE W C.base es F) {b : ByteArray} {i : Nat} {A : Option Addr} {c : Nat} (hlk : (getV es b).getD (.slice none 0 0) = .slice A (F b).length c) (hown : W.ownsRow C.base 3 1 (.slice A (F b).length c) (F b).length (numC (F b)))
    (hG : W.grownBy w3 (blkOf A)) {g6 c6 : Nat} (ho : w3.ownsRow C.base 3 1 (.slice (some ⟨g6, 0, none⟩) ((F b).length + 1) c6) ((F b).length + 1) (numC (F b) ++ [.int .i64 i])) (hat : blkOf A = some g6 ∨ W.heap.size ≤ g6)
    (hM' : MapV strK W' C.fm (putV es b (.slice (some ⟨g6, 0, none⟩) ((F b).length + 1) c6))) (hg : w3.grownBy W' (some C.fm)) {N : Nat} (hN : es.length ≤ N) (hN2 : N + 1 ≤ 300) :
    MM1 C W' out (upd F b (F b ++ [i])) ∧ FreeAt W' C.base C.fm (N + 1) (upd F b (F b ++ [i])) ∧ FrM C.base [C.fm] W W' := by
  have hf1 : ∀ xs, FrM C.base xs W w3 := fun xs => FrM.of_row hG hown (.inr rfl) (Nat.le_refl _) h.size
  have hs3 : C.base ≤ w3.heap.size := Nat.le_trans h.size hG.size
  have hf : FrM C.base [C.fm] W W' := (hf1 _).trans (FrM.of_in hg hs3 h.fb (by simp))
  have key : ∀ {g : Nat} {t : TypeId} {cs : Array Value}, Blk W g t cs → g ∉ [C.fm] := fun {g t cs} hb => by
    simp only [List.mem_singleton]; exact Blk.ne_map hb hM
  have hM3 := (hf1 []).map hM (by simp)
  have hnc : ∀ (q : Nat) (cur : Array Value) (t : TypeId), w3.heap[q]? = some (.cells cur t (0, 0)) → W'.heap[q]? = w3.heap[q]? := fun q cur t hq => hg.block q (Array.getElem?_eq_some_iff.1 hq).1 fun e => by
    injection e with e
    obtain ⟨ms, ck, hmm⟩ := hM3.isMap
    rw [← e, hq] at hmm
    cases hmm
  have hE3 : FreeE w3 C.base (putV es b (.slice (some ⟨g6, 0, none⟩) ((F b).length + 1) c6)) (upd F b (F b ++ [i])) := by
    refine hE.put hM.1 hG (by simp) (by simp) (by rw [numC_app]; exact ho) (fun b' A' n' c' g hne hg' hA' e => ?_) (fun g hg' => ?_)
    · by_cases e0 : F b = []
      · rw [hE.no b e0] at hlk
        injection hlk with hlk
        rw [← hlk] at e
        cases e
      · obtain ⟨A2, c2, h2, _⟩ := hE.yes b e0
        rw [h2] at hlk
        injection hlk with hlk
        subst hlk
        exact hE.apart b' b A' A2 n' _ c' c2 g hne hg' h2 hA' e.symm
    · injection hg' with hg'
      subst hg'
      rcases hat with hat | hat
      · right
        by_cases e0 : F b = []
        · rw [hE.no b e0] at hlk
          injection hlk with hlk
          rw [← hlk] at hat
          cases hat
        · obtain ⟨A2, c2, h2, _⟩ := hE.yes b e0
          rw [h2] at hlk
          injection hlk with hlk
          subst hlk
          exact ⟨_, _, _, h2, hat⟩
      · exact .inl hat
  have hE' : FreeE W' C.base (putV es b (.slice (some ⟨g6, 0, none⟩) ((F b).length + 1) c6)) (upd F b (F b ++ [i])) := hE3.keep fun b' A' n' c' g hg' hA' => by
    obtain ⟨_, cur, hh⟩ := hE3.row_lt hg' hA'
    exact hnc g cur _ hh
  have hlen := Nat.le_trans (getV_len (es := es) b (.slice (some ⟨g6, 0, none⟩) ((F b).length + 1) c6)) (Nat.succ_le_succ hN)
  refine ⟨⟨Nat.le_trans hs3 hg.size, hf.blk h.sB (by decide) (key h.sB), hf.blk h.tB (by decide) (key h.tB), hf.blk h.oB (by decide) (key h.oB), ?_, h.ol, hf.blk h.fB (by decide) (key h.fB), ⟨_, hM', Nat.le_trans hlen hN2, hE'⟩, h.fb⟩, ⟨_, hM', hlen, hE'⟩, hf⟩
  have h1 : w3.ownsRow C.base 35 3 (.slice (some ⟨C.og, 0, none⟩) C.es.length C.es.length) C.es.length (out.flatMap Src.list) := own_keep h.oR fun g o e => hG.block g (own_lt2 (by rw [← e]; exact h.oR)).2.1 (row_ne_row h.oR hown (by decide) (by rw [e]; rfl))
  refine own_keep h1 fun q o e => ?_
  obtain ⟨g', cap, cur, hv, _, hh, _⟩ := h1.2.resolve_left (fun h => by cases h.1)
  injection hv with hv
  injection hv with hv
  injection hv with hv
  injection e with e
  injection e with e
  exact hnc q cur _ (by rw [← e, hv]; exact hh)
theorem OfAt.low {W : World} {base base' n c : Nat} {A : Option Addr} {rs : List SC} {N : Nat → List ByteArray} (h : OfAt W base A n c rs N) (hb : base' ≤ base) : OfAt W base' A n c rs N := ⟨h.len, own_low h.own hb, fun k x hk => ⟨(h.row k x hk).1, own_low (h.row k x hk).2 hb⟩, h.apart⟩
theorem stockAt_cons (d : ByteArray) (r : List ByteArray) (b : ByteArray) : stockAt (d :: r) b = if b = d then some 0 else (stockAt r b).map (· + 1) := by
  unfold stockAt
  rw [List.length_cons, List.range_succ_eq_map, List.find?_cons]
  by_cases e : b = d
  · subst e; simp
  · have e' : ¬ d = b := fun h => e h.symm
    rw [if_neg e]
    simp only [List.getElem?_cons_zero, Option.some.injEq, e', decide_false]
    rw [List.find?_map]
    simp [Function.comp_def]
/-- The places of the stock's contents, from one place on. -/
def stockG (sd : List ByteArray) (k : Nat) (b : ByteArray) : Option Nat := (stockAt (sd.drop k) b).map (· + k)
theorem stockG_0 (sd : List ByteArray) : stockG sd 0 = stockAt sd := by
  funext b
  unfold stockG
  rw [List.drop_zero]
  cases stockAt sd b <;> rfl
theorem stockG_end (sd : List ByteArray) {k : Nat} (h : sd.length ≤ k) (b : ByteArray) : stockG sd k b = none := by
  unfold stockG
  rw [List.drop_of_length_le h]
  rfl
theorem stockG_pred (sd : List ByteArray) {k : Nat} {d : ByteArray} (h : sd[k]? = some d) (b : ByteArray) : stockG sd k b = if b = d then some k else stockG sd (k + 1) b := by
  unfold stockG
  rw [drop_at' h, stockAt_cons]
  by_cases e : b = d
  · rw [if_pos e, if_pos e]; simp
  · rw [if_neg e, if_neg e]
    cases stockAt (sd.drop (k + 1)) b with
    | none => rfl
    | some j => simp; omega
/-- What stands behind the third round's closure. -/
def R3Res (C : MC) (D : MD) (W : World) (o : List Src) (F : ByteArray → List Nat) (i : Nat) (b : ByteArray) (N : Nat) (e : Ending) (w' : World) : Prop :=
  (∃ o', step3 C.es C.sd o i b = some o' ∧ R3Yes C D W o' F N e w') ∨ (step3 C.es C.sd o i b = none ∧ e = .returned (.int .i64 32) ∧ w' = W)
theorem round3_any (C : MC) (D : MD) (W : World) (o : List Src) (F : ByteArray → List Nat) (h : MM1 C W o F) (h2 : MM2 C D W) (i : Nat) (b : ByteArray) (hb : C.es[i]? = some b) (hbs : b.size ≤ maxLen) (N : Nat) (h3 : IdxAt W D.gm N (srcOf C.es o)) (hN : N ≤ 1000) :
    Calls Try.prog 38 #[.int .i64 i, .string b, .pointer (some ⟨C.ox, 0, none⟩), .pointer (some ⟨D.gx, 0, none⟩), .pointer (some ⟨D.ax, 0, none⟩)] W (R3Res C D W o F i b N) := by
  have hil : i < C.es.length := (List.getElem?_eq_some_iff.1 hb).1
  by_cases h0 : kindAt o i = 0
  · cases hs : srcOf C.es o b with
    | some k =>
      refine (round3_copy C D W o F h h2 i b hil hbs N h3 h0 k hs).mono fun e w' hr => .inl ⟨_, ?_, hr⟩
      unfold step3
      rw [if_neg (by simp [h0]), hs]
    | none =>
      cases ha : stockAt C.sd b with
      | some k =>
        refine (round3_new C D W o F h h2 i b hb hbs N h3 hN h0 k hs ha).mono fun e w' hr => .inl ⟨_, ?_, hr⟩
        unfold step3
        rw [if_neg (by simp [h0]), hs, ha]
      | none =>
        refine (round3_miss C D W o F h h2 i b hil hbs N h3 h0 hs ha).mono fun e w' hr => .inr ⟨?_, hr⟩
        unfold step3
        rw [if_neg (by simp [h0]), hs, ha]
  · refine (round3_keep C D W o F h i b hil h0).mono fun e w' hr => .inl ⟨o, ?_, ?_⟩
    · unfold step3
      rw [if_pos h0]
    · obtain ⟨rfl, rfl⟩ := hr
      obtain ⟨es, q1, q2, q3⟩ := h3
      exact ⟨rfl, h, ⟨es, q1, by omega, q3⟩, FrM.refl _ _ _⟩
/-- What holds where the third round has found a content that lacks. -/
structure MBe (C : MC) (w0 : World) (rx ex : Nat) (Ds : List Nat) (W : World) : Prop where
  below : Below C.base w0 W
  rB : Blk W rx 29 #[.slice none 0 0]
  eB : Blk W ex 30 #[.int .i64 32]
  marks : ∀ D ∈ Ds, C.base ≤ D ∧ W.heap[D]? = some (.deferred (some []))
theorem MBe.ownFrom {β : Type} {C : MC} {w0 : World} {rx ex B : Nat} {Ds : List Nat} (hB : C.base ≤ B) (hw : C.base ≤ w0.heap.size) (hD : ∀ D ∈ Ds, D < B) : OwnFrom B (fun (_ : β) W => MBe C w0 rx ex Ds W) := fun _ W _ _ hs hg hr => by
  obtain ⟨hc, hk⟩ := turn_stay hg hr
  have hsz : C.base ≤ W.heap.size := Nat.le_trans hw hs.below.size
  exact ⟨hs.below.trans (below_grown hg hsz fun g e => Nat.le_trans hB (hr g e).1), hc.blk hs.rB, hc.blk hs.eB, fun D hm => ⟨(hs.marks D hm).1, (hk D (hD D hm) (Array.getElem?_eq_some_iff.1 (hs.marks D hm).2).1).trans (hs.marks D hm).2⟩⟩
theorem MB.miss {C : MC} {w0 W : World} {rx ex : Nat} {Ds : List Nat} (h : MB C w0 rx ex Ds W) (hr : C.base ≤ rx) (he : C.base ≤ ex) : MBe C w0 rx ex Ds ((W.setCell ⟨rx, 0, none⟩ (.slice none 0 0)).setCell ⟨ex, 0, none⟩ (.int .i64 32)) := by
  have hne : rx ≠ ex := fun e => by
    have h1 := h.rB
    have h2 := h.eB
    unfold Blk at h1 h2
    rw [e, h2] at h1
    injection h1 with h1
    injection h1 with _ h1
    exact absurd h1 (by decide)
  have hD : ∀ D ∈ Ds, D ≠ rx ∧ D ≠ ex := fun D hm => by
    have h3 := (h.marks D hm).2
    refine ⟨fun e => ?_, fun e => ?_⟩
    · have h1 := h.rB
      unfold Blk at h1
      rw [e, h1] at h3; cases h3
    · have h1 := h.eB
      unfold Blk at h1
      rw [e, h1] at h3; cases h3
  refine ⟨(h.below.setCell (p := ⟨rx, 0, none⟩) hr _).setCell (p := ⟨ex, 0, none⟩) he _, (h.rB.set 0 _).set_ne _ _ hne, (h.eB.set_ne ⟨rx, 0, none⟩ _ (fun e => hne e.symm)).set 0 _, fun D hm => ⟨(h.marks D hm).1, ?_⟩⟩
  rw [heap_setCell_other _ ⟨ex, 0, none⟩ D _ (hD D hm).2, heap_setCell_other _ ⟨rx, 0, none⟩ D _ (hD D hm).1]
  exact (h.marks D hm).2
end Go.Proofs.Ytcnpncieibmngaa
