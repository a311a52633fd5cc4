/- What is made and unmade: the look is as it was. -/
import Derived.Test.YthmeffpickejkaaViewR
namespace Go.Proofs.Ythmeffpickejkaa
open Go.RowKit

/-- What Do says and makes of any tree. -/
def doW (t : TV) (ds : List ByteArray) (c : Cmd) (sd : List ByteArray) : PW := if DoE t ds c sd = 0 then doM (openM t ds) c sd else openM zeroTV []
theorem Do_told (t : TV) (ds : List ByteArray) (c : Cmd) (ho : OpOk c) (SA : Option Addr) (sn sc : Nat) (ss : List SC) (sd : List ByteArray) (w : World) (h : TreeD w t ds) (hS : StockAt w SA sn ss sd) :
    Calls Try.prog 18 #[t.val, .agg c.cells, .slice SA sn sc] w fun e w' => ∃ u S, e = .returned (.tuple #[u.val, .int .i64 (DoE t ds c sd)]) ∧ ToldAs (doW t ds c sd) w.heap.size w' S u ∧ Below w.heap.size w w' := by
  refine (Do_any t ds c ho SA sn sc ss sd w h hS).mono ?_
  rintro e w' ⟨u, he, h0, h1, hb⟩
  by_cases hE : DoE t ds c sd = 0
  · obtain ⟨S, hS⟩ := h1 hE
    exact ⟨u, S, he, by unfold doW; rw [if_pos hE]; exact hS, hb⟩
  · obtain rfl := h0 hE
    exact ⟨zeroTV, [], he, by unfold doW; rw [if_neg hE]; exact zero_told _ _, hb⟩
theorem doE_loose {t : TV} {ds : List ByteArray} {c : Cmd} {sd : List ByteArray} (h : DoE t ds c sd = 0) : looseE t = 0 ∧ doE (openM t ds) c sd = 0 := by
  unfold DoE at h
  split at h
  · rename_i hl; exact ⟨hl, h⟩
  · rename_i hl; exact absurd h hl
theorem doW_ok {t : TV} {ds : List ByteArray} {w : World} (h : TreeD w t ds) (c : Cmd) (sd : List ByteArray) : WOkP (doW t ds c sd) := by
  unfold doW
  split
  · rename_i hE; exact (open_ok h (doE_loose hE).1).do c sd
  · exact zero_ok
/-- A told tree and the tree whose world looks so. -/
theorem told_back {N : PW} (hN : WOkP N) {t : TV} {ds : List ByteArray} {w : World} (h : TreeD w t ds) (hl : looseE t = 0) (hV : SameV N (openM t ds)) {v : TV} {fs : List ByteArray} (k : TellsM N v fs) : exactB v t fs ds = true := by
  obtain ⟨b, w2, S, k, rfl⟩ := k
  have hL := looseP_of hl
  exact exact_of_view (told_loose hN.inv hN.len k) hL k.fl h.tree.fl (by rw [dsOf, List.length_map, k.fl, k.fn]) h.dat.len (fun p => (told_kind hN.inv k p).trans ((hV.kind p).trans (open_kind hL.good p))) (fun p q => (told_sameL k p q).trans (hV.same p q))
theorem told_other {N : PW} (hN : WOkP N) {t : TV} {ds : List ByteArray} {p : ByteArray} (h0 : (openM t ds).vw.k p = none) (h1 : N.vw.k p ≠ none) {u : TV} {es : List ByteArray} (k : TellsM N u es) : exactB u t es ds = false := by
  cases hx : exactB u t es ds with
  | false => rfl
  | true =>
    obtain ⟨b, w2, S, k, rfl⟩ := k
    have e : u.nodes = t.nodes := by
      unfold exactB at hx
      simp only [Bool.and_eq_true, decide_eq_true_eq] at hx
      exact hx.1
    have hk := told_kind hN.inv k p
    have hn : nodeAt t.nodes p = none := none_at (M := openM t ds) h0
    rw [← e] at hn
    have : kindL u.nodes (treeF u (dsOf N S)) p = none := kind_none.2 hn
    exact absurd (hk.symm.trans this) h1

theorem firstE_ok {T : Bool} {c : Cmd} {ds : List ByteArray} (h6 : c.op ≠ 6) (hp : validL c.path.data.toList = true) (hd : T = true → validL c.dst.data.toList = true) : firstE T false c ds = 0 := by
  unfold firstE
  rw [if_neg (by simp), if_neg, if_neg, if_neg h6]
  · rintro (h | ⟨h1, h2⟩)
    · rw [hp] at h; cases h
    · rw [hd h1] at h2; cases h2
  · rintro (h | ⟨h1, h2⟩)
    · exact valid_ne hp h
    · exact valid_ne (hd h1) h2
/-- Prefixes that are directories stay so where a file or nothing was turned. -/
theorem OkUp.act {V : Vw} {p : ByteArray} (h : OkUp V p) {σ : ByteArray → Src} (hσ : ∀ r, isD (V.k r) = true → σ r = .old r) : OkUp (V.act σ) p := fun i hi h3 => by
  have := h i hi h3
  show isD (match σ (p.extract 0 i) with | .old r => V.k r | .gone => none | .fresh k _ => some k) = true
  rw [hσ _ this]
  exact this
theorem act_k {V : Vw} {σ : ByteArray → Src} {r q : ByteArray} (h : σ r = .old q) : (V.act σ).k r = V.k q := by simp only [Vw.act, h]
theorem act_fresh {V : Vw} {σ : ByteArray → Src} {r : ByteArray} {k : Kd} {f : Bool} (h : σ r = .fresh k f) : (V.act σ).k r = some k := by simp only [Vw.act, h]
theorem act_gone {V : Vw} {σ : ByteArray → Src} {r : ByteArray} (h : σ r = .gone) : (V.act σ).k r = none := by simp only [Vw.act, h]
theorem sB_none {l : List Node} {F : Int → Int × ByteArray} {p : ByteArray} (h : kindL l F p = none) (q : ByteArray) : sB l p q = false ∧ sB l q p = false := by
  have hn := kind_none.1 h
  unfold sB
  rw [hn]
  refine ⟨rfl, ?_⟩
  split
  · rename_i h1 h2; cases h2
  · rfl
/-- A look from which p, which was not there, is taken away again. -/
theorem back_del {M : PW} {p : ByteArray} (h : M.vw.k p = none) {σ : ByteArray → Src} (hσ : ∀ r, r ≠ p → σ r = .old r) : (M.vw.act σ).act (sDel p) = M.vw := by
  have hs := fun q => sB_none (show kindL M.nodes M.F p = none from h) q
  refine Vw.ext2 (fun q => ?_) (fun a b => ?_)
  · by_cases e : q = p
    · rw [act_gone (by unfold sDel; rw [if_pos e]), e, h]
    · rw [act_k (by unfold sDel; rw [if_neg e]), act_k (hσ q e)]
  · show (match sDel p a, sDel p b with
      | .old r, .old t => (M.vw.act σ).s r t
      | .fresh _ f, .fresh _ _ => f && decide (a = b)
      | _, _ => false) = sB M.nodes a b
    unfold sDel
    by_cases ca : a = p
    · rw [if_pos ca, ca, (hs b).1]
    · by_cases cb : b = p
      · rw [if_pos cb, if_neg ca, cb, (hs a).2]
      · rw [if_neg ca, if_neg cb]
        show (match σ a, σ b with
          | .old r, .old t => M.vw.s r t
          | .fresh _ f, .fresh _ _ => f && decide (a = b)
          | _, _ => false) = sB M.nodes a b
        rw [hσ a ca, hσ b cb]
        rfl
theorem back_move {M : PW} {p q : ByteArray} (h : M.vw.k p = none) (hq : M.vw.k q ≠ none) : (M.vw.act (sMove q p)).act (sMove p q) = M.vw := by
  have hs := fun q => sB_none (show kindL M.nodes M.F p = none from h) q
  have hne : ¬ q = p := fun e => hq (by rw [e]; exact h)
  have hne' : ¬ p = q := fun e => hne e.symm
  have m1 : ∀ a, a = p → sMove p q a = .gone := fun a e => by unfold sMove; rw [if_pos e]
  have m2 : ∀ a, a = q → sMove p q a = .old p := fun a e => by unfold sMove; rw [if_neg (by rw [e]; exact hne), if_pos e]
  have m3 : ∀ a, ¬ a = p → ¬ a = q → sMove p q a = .old a := fun a e f => by unfold sMove; rw [if_neg e, if_neg f]
  have n1 : sMove q p p = .old q := by unfold sMove; rw [if_neg hne', if_pos rfl]
  have n3 : ∀ a, ¬ a = p → ¬ a = q → sMove q p a = .old a := fun a e f => by unfold sMove; rw [if_neg f, if_neg e]
  refine Vw.ext2 (fun a => ?_) (fun a b => ?_)
  · by_cases e : a = p
    · rw [act_gone (m1 a e), e, h]
    · by_cases f : a = q
      · rw [act_k (m2 a f), act_k n1, f]
      · rw [act_k (m3 a e f), act_k (n3 a e f)]
  · show (match sMove p q a, sMove p q b with
      | .old r, .old t => (M.vw.act (sMove q p)).s r t
      | .fresh _ f, .fresh _ _ => f && decide (a = b)
      | _, _ => false) = sB M.nodes a b
    have inner : ∀ r t x y : ByteArray, sMove q p r = .old x → sMove q p t = .old y → (M.vw.act (sMove q p)).s r t = sB M.nodes x y := fun r t x y h1 h2 => by
      show (match sMove q p r, sMove q p t with
        | .old r, .old t => M.vw.s r t
        | .fresh _ f, .fresh _ _ => f && decide (r = t)
        | _, _ => false) = _
      rw [h1, h2]; rfl
    by_cases ca : a = p
    · rw [m1 a ca, ca, (hs b).1]
    · by_cases cb : b = p
      · rw [m1 b cb, cb, (hs a).2]
        by_cases fa : a = q
        · rw [m2 a fa]
        · rw [m3 a ca fa]
      · by_cases fa : a = q <;> by_cases fb : b = q
        · rw [m2 a fa, m2 b fb, fa, fb]; exact inner _ _ _ _ n1 n1
        · rw [m2 a fa, m3 b cb fb, fa]; exact inner _ _ _ _ n1 (n3 b cb fb)
        · rw [m3 a ca fa, m2 b fb, fb]; exact inner _ _ _ _ (n3 a ca fa) n1
        · rw [m3 a ca fa, m3 b cb fb]; exact inner _ _ _ _ (n3 a ca fa) (n3 b cb fb)

/-- The pairs of ModelUndo. -/
def undoP (p q : ByteArray) (mode : Int) (hp : p.size ≤ 9223372036854775807) (hq : q.size ≤ 9223372036854775807) : List (Cmd × Cmd) :=
  [(⟨1, p, ByteArray.empty, mode, 0, hp, by decide⟩, ⟨2, p, ByteArray.empty, 0, 0, hp, by decide⟩),
   (⟨4, q, p, 0, 0, hq, hp⟩, ⟨5, p, ByteArray.empty, 0, 0, hp, by decide⟩),
   (⟨3, q, p, 0, 0, hq, hp⟩, ⟨3, p, q, 0, 0, hp, hq⟩),
   (⟨6, p, ByteArray.empty, mode, 0, hp, by decide⟩, ⟨5, p, ByteArray.empty, 0, 0, hp, by decide⟩),
   (⟨7, q, p, mode, 0, hq, hp⟩, ⟨5, p, ByteArray.empty, 0, 0, hp, by decide⟩)]
theorem undo_do {M : PW} (hM : WOkP M) {p q : ByteArray} {mode : Int} {hp : p.size ≤ 9223372036854775807} {hq : q.size ≤ 9223372036854775807} {sd : List ByteArray} {x : Cmd × Cmd} (hx : x ∈ undoP p q mode hp hq) (h : doE M x.1 sd = 0) :
    M.vw.k p = none ∧ (doM M x.1 sd).vw.k p ≠ none ∧ doE (doM M x.1 sd) x.2 sd = 0 ∧ (doM (doM M x.1 sd) x.2 sd).vw = M.vw := by
  have hvw := vw_do hM.inv h
  have hN := hM.do x.1 sd
  have h' := ((do0_iff M x.1 sd).1 h).2
  have fin : ∀ (y : Cmd), x.2 = y → y.op = 2 ∨ y.op = 5 ∨ y.op = 3 → validL y.path.data.toList = true → (y.op = 3 → validL y.dst.data.toList = true) → vOp (doM M x.1 sd).vw y → doE (doM M x.1 sd) x.2 sd = 0 := fun y e ho v1 v2 hv => by
    rw [e]
    refine (do0_iff _ _ _).2 ⟨by simp [isOp]; omega, .inr ⟨?_, fun hg => ?_, hv⟩⟩
    · have hm : modeB y.op = false := by simp [modeB]; omega
      rw [hm]
      exact firstE_ok (by omega) v1 fun ht => v2 (by simp [toB] at ht; omega)
    · simp [growB] at hg; omega
  simp only [undoP, List.mem_cons, List.not_mem_nil, or_false] at hx
  rcases hx with rfl | rfl | rfl | rfl | rfl
  · obtain ⟨f1, _, hv⟩ := h'.resolve_left (by simp)
    obtain ⟨_, v1, v2, _⟩ := first0 f1
    unfold vOp at hv
    rw [if_pos (.inl rfl)] at hv
    obtain ⟨k1, k2⟩ := hv
    simp only at k1 k2 v1
    unfold vDo sigC at hvw
    rw [if_neg (by simp), if_pos rfl] at hvw
    have hp1 : (M.vw.act (sNew p (.dir mode) false)).k p = some (.dir mode) := act_fresh (f := false) (by unfold sNew; rw [if_pos rfl])
    have hd : doE (doM M ⟨1, p, ByteArray.empty, mode, 0, hp, by decide⟩ sd) ⟨2, p, ByteArray.empty, 0, 0, hp, by decide⟩ sd = 0 := by
      refine fin _ rfl (.inl rfl) v1 (fun e => absurd e (by simp)) ?_
      unfold vOp
      rw [if_neg (by simp), if_pos rfl, hvw]
      refine ⟨k1.act fun r hr => ?_, by simp only; rw [hp1]; rfl, fun r hr => ?_⟩
      · unfold sNew
        rw [if_neg]
        intro e; rw [e, k2] at hr; cases hr
      · simp only
        by_cases e : r = p
        · intro e2
          have := parent_lt v1
          rw [e, ] at e2
          rw [e2] at this
          exact lt_irr _ this
        · rw [act_k (q := r) (by unfold sNew; rw [if_neg e])] at hr
          intro e2
          cases hz : nodeAt M.nodes r with
          | none => exact hr (kind_none.2 hz)
          | some z =>
            obtain ⟨hzm, hzp⟩ := nodeAt_some hz
            rcases hM.inv.dir z hzm with h1 | ⟨y, hy, h1, _⟩
            · rw [hzp, e2] at h1
              exact valid_ne v1 h1
            · have : y.path = p := ba_ext (by rw [show y.path.data.toList = pathL y from rfl, h1, hzp, e2])
              exact nodeAt_none.1 (none_at k2) y hy this
    refine ⟨k2, by rw [hvw, hp1]; simp, hd, ?_⟩
    rw [vw_do hN.inv hd, hvw]
    unfold vDo sigC
    rw [if_neg (by simp), if_neg (by simp), if_pos (.inl rfl)]
    exact back_del k2 fun r hr => by unfold sNew; rw [if_neg hr]
  · obtain ⟨f1, _, hv⟩ := h'.resolve_left (by simp)
    obtain ⟨_, v1, v2, _⟩ := first0 f1
    unfold vOp at hv
    rw [if_neg (by simp), if_neg (by simp), if_neg (by simp), if_neg (by simp)] at hv
    obtain ⟨⟨k1, k2⟩, k3, k4⟩ := hv
    have v2 := v2 (by simp [toB])
    simp only at k1 k2 k3 k4 v1 v2
    unfold vDo sigC at hvw
    rw [if_neg (by simp), if_neg (by simp), if_neg (by simp), if_neg (by simp), if_pos rfl] at hvw
    simp only at hvw
    have hp1 : (M.vw.act (sLink q p)).k p = M.vw.k q := act_k (by unfold sLink; rw [if_pos rfl])
    have hd : doE (doM M ⟨4, q, p, 0, 0, hq, hp⟩ sd) ⟨5, p, ByteArray.empty, 0, 0, hp, by decide⟩ sd = 0 := by
      refine fin _ rfl (.inr (.inl rfl)) v2 (fun e => absurd e (by simp)) ?_
      unfold vOp
      rw [if_neg (by simp), if_neg (by simp), if_pos rfl, hvw]
      refine ⟨k3.act fun r hr => ?_, by simp only; rw [hp1]; exact k2⟩
      unfold sLink
      rw [if_neg]
      intro e; rw [e, k4] at hr; cases hr
    refine ⟨k4, (fun e => by rw [hvw, hp1] at e; rw [e] at k2; cases k2), hd, ?_⟩
    rw [vw_do hN.inv hd, hvw]
    unfold vDo sigC
    rw [if_neg (by simp), if_neg (by simp), if_pos (.inr rfl)]
    exact back_del k4 fun r hr => by unfold sLink; rw [if_neg hr]
  · obtain ⟨f1, _, hv⟩ := h'.resolve_left (by simp)
    obtain ⟨_, v1, v2, _⟩ := first0 f1
    unfold vOp at hv
    rw [if_neg (by simp), if_neg (by simp), if_neg (by simp), if_neg (by simp)] at hv
    obtain ⟨⟨k1, k2⟩, k3, k4⟩ := hv
    have v2 := v2 (by simp [toB])
    simp only at k1 k2 k3 k4 v1 v2
    unfold vDo sigC at hvw
    rw [if_neg (by simp), if_neg (by simp), if_neg (by simp), if_pos rfl] at hvw
    simp only at hvw
    have hqn : M.vw.k q ≠ none := fun e => by rw [e] at k2; cases k2
    have hne : ¬ p = q := fun e => hqn (by rw [← e]; exact k4)
    have hp1 : (M.vw.act (sMove q p)).k p = M.vw.k q := act_k (by unfold sMove; rw [if_neg hne, if_pos rfl])
    have hold : ∀ r, isD (M.vw.k r) = true → sMove q p r = .old r := fun r hr => by
      unfold sMove
      rw [if_neg, if_neg]
      · intro e; rw [e, k4] at hr; cases hr
      · intro e
        rw [e] at hr
        cases hz : M.vw.k q with
        | none => exact hqn hz
        | some z => rw [hz] at hr k2; cases z <;> simp [isD, isF] at hr k2
    have hd : doE (doM M ⟨3, q, p, 0, 0, hq, hp⟩ sd) ⟨3, p, q, 0, 0, hp, hq⟩ sd = 0 := by
      refine fin _ rfl (.inr (.inr rfl)) v2 (fun _ => v1) ?_
      unfold vOp
      rw [if_neg (by simp), if_neg (by simp), if_neg (by simp), if_neg (by simp), hvw]
      exact ⟨⟨k3.act hold, by simp only; rw [hp1]; exact k2⟩, k1.act hold, act_gone (by unfold sMove; rw [if_pos rfl])⟩
    refine ⟨k4, by rw [hvw, hp1]; exact hqn, hd, ?_⟩
    rw [vw_do hN.inv hd, hvw]
    unfold vDo sigC
    rw [if_neg (by simp), if_neg (by simp), if_neg (by simp), if_pos rfl]
    exact back_move k4 hqn
  · obtain ⟨f1, _, hv⟩ := h'.resolve_left (by simp)
    obtain ⟨_, v1, v2, _⟩ := first0 f1
    unfold vOp at hv
    rw [if_pos (.inr rfl)] at hv
    obtain ⟨k1, k2⟩ := hv
    simp only at k1 k2 v1
    unfold vDo sigC at hvw
    rw [if_neg (by simp), if_neg (by simp), if_neg (by simp), if_neg (by simp), if_neg (by simp), if_pos rfl] at hvw
    simp only at hvw
    obtain ⟨kd, hkd⟩ : ∃ kd, Kd.file mode (refData ⟨6, p, ByteArray.empty, mode, 0, hp, by decide⟩ sd) = kd := ⟨_, rfl⟩
    have hkf : isF (some kd) = true := by rw [← hkd]; rfl
    rw [hkd] at hvw
    have hp1 : (M.vw.act (sNew p kd true)).k p = some kd := act_fresh (f := true) (by unfold sNew; rw [if_pos rfl])
    have hd : doE (doM M ⟨6, p, ByteArray.empty, mode, 0, hp, by decide⟩ sd) ⟨5, p, ByteArray.empty, 0, 0, hp, by decide⟩ sd = 0 := by
      refine fin _ rfl (.inr (.inl rfl)) v1 (fun e => absurd e (by simp)) ?_
      unfold vOp
      rw [if_neg (by simp), if_neg (by simp), if_pos rfl, hvw]
      refine ⟨k1.act fun r hr => ?_, by simp only; rw [hp1]; exact hkf⟩
      unfold sNew
      rw [if_neg]
      intro e; rw [e, k2] at hr; cases hr
    refine ⟨k2, by rw [hvw, hp1]; simp, hd, ?_⟩
    rw [vw_do hN.inv hd, hvw]
    unfold vDo sigC
    rw [if_neg (by simp), if_neg (by simp), if_pos (.inr rfl)]
    exact back_del k2 fun r hr => by unfold sNew; rw [if_neg hr]
  · obtain ⟨f1, _, hv⟩ := h'.resolve_left (by simp)
    obtain ⟨_, v1, v2, _⟩ := first0 f1
    unfold vOp at hv
    rw [if_neg (by simp), if_neg (by simp), if_neg (by simp), if_neg (by simp)] at hv
    obtain ⟨⟨k1, k2⟩, k3, k4⟩ := hv
    have v2 := v2 (by simp [toB])
    simp only at k1 k2 k3 k4 v1 v2
    unfold vDo sigC at hvw
    rw [if_neg (by simp), if_neg (by simp), if_neg (by simp), if_neg (by simp), if_neg (by simp), if_neg (by simp), if_pos rfl] at hvw
    simp only at hvw
    obtain ⟨kd, hkd⟩ : ∃ kd, Kd.file mode (kdData (M.vw.k q)) = kd := ⟨_, rfl⟩
    have hkf : isF (some kd) = true := by rw [← hkd]; rfl
    rw [hkd] at hvw
    have hp1 : (M.vw.act (sNew p kd true)).k p = some kd := act_fresh (f := true) (by unfold sNew; rw [if_pos rfl])
    have hd : doE (doM M ⟨7, q, p, mode, 0, hq, hp⟩ sd) ⟨5, p, ByteArray.empty, 0, 0, hp, by decide⟩ sd = 0 := by
      refine fin _ rfl (.inr (.inl rfl)) v2 (fun e => absurd e (by simp)) ?_
      unfold vOp
      rw [if_neg (by simp), if_neg (by simp), if_pos rfl, hvw]
      refine ⟨k3.act fun r hr => ?_, by simp only; rw [hp1]; exact hkf⟩
      unfold sNew
      rw [if_neg]
      intro e; rw [e, k4] at hr; cases hr
    refine ⟨k4, by rw [hvw, hp1]; simp, hd, ?_⟩
    rw [vw_do hN.inv hd, hvw]
    unfold vDo sigC
    rw [if_neg (by simp), if_neg (by simp), if_pos (.inr rfl)]
    exact back_del k4 fun r hr => by unfold sNew; rw [if_neg hr]
/-- The law of ModelUndo, of one pair. -/
theorem undo_law {t : TV} {ds : List ByteArray} {w : World} (hT : TreeD w t ds) {p q : ByteArray} {mode : Int} {hp : p.size ≤ 9223372036854775807} {hq : q.size ≤ 9223372036854775807} {sd : List ByteArray} {x : Cmd × Cmd} (hx : x ∈ undoP p q mode hp hq) (h : DoE t ds x.1 sd = 0) {u : TV} {es : List ByteArray} (hu : TellsM (doW t ds x.1 sd) u es) {w' : World} (hU : TreeD w' u es) :
    DoE u es x.2 sd = 0 ∧ (∀ v fs, TellsM (doW u es x.2 sd) v fs → exactB v t fs ds = true) ∧ exactB u t es ds = false := by
  obtain ⟨hl, h0⟩ := doE_loose h
  have hM := open_ok hT hl
  have hW : doW t ds x.1 sd = doM (openM t ds) x.1 sd := by unfold doW; rw [if_pos h]
  rw [hW] at hu
  obtain ⟨k1, k2, k3, k4⟩ := undo_do hM hx h0
  have hN := hM.do x.1 sd
  obtain ⟨hlu, hV⟩ := told_opened hN hu
  have hMu := open_ok hU hlu
  have hE : DoE u es x.2 sd = 0 := by
    unfold DoE
    rw [if_pos hlu, hV.doE hMu.inv hN.inv]
    exact k3
  refine ⟨hE, fun v fs hv => ?_, told_other hN k1 k2 hu⟩
  have hW2 : doW u es x.2 sd = doM (openM u es) x.2 sd := by unfold doW; rw [if_pos hE]
  rw [hW2] at hv
  have hV2 := hV.do hMu hN x.2 sd
  refine told_back (hMu.do x.2 sd) hT hl (hV2.trans ?_) hv
  exact SameV.of_vw k4 (hN.do x.2 sd).inv.apart hM.inv.apart
end Go.Proofs.Ythmeffpickejkaa
