/- Two instructions on paths that have nothing to do with each other go either way; what an instruction does not name stays. -/
import Derived.Test.YthmeffpickejkaaViewR
namespace Go.Proofs.Ythmeffpickejkaa
open Go.RowKit

/-- A path that an instruction names. -/
def Cmd.at (c : Cmd) (r : ByteArray) : Prop := r = c.path ∨ r = c.dst
instance (c : Cmd) (r : ByteArray) : Decidable (c.at r) := inferInstanceAs (Decidable (r = c.path ∨ r = c.dst))
/-- What is made of paths that are not named comes from themselves; what comes from another path comes from a named one. -/
structure Near (σ : ByteArray → Src) (X : ByteArray → Prop) : Prop where
  away : ∀ r, ¬ X r → σ r = .old r
  from_ : ∀ r q, σ r = .old q → q = r ∨ X q
theorem sig_near (c : Cmd) (sd : List ByteArray) (D : ByteArray) : Near (sigC c sd D) c.at := by
  have nw : ∀ p k f, c.at p → Near (sNew p k f) c.at := fun p k f hp => by
    refine ⟨fun r hr => ?_, fun r q h => ?_⟩
    · unfold sNew; rw [if_neg]; exact fun e => hr (e ▸ hp)
    · unfold sNew at h
      split at h
      · cases h
      · injection h with h; exact .inl h.symm
  have ol : Near Src.old c.at := ⟨fun _ _ => rfl, fun r q h => by injection h with h; exact .inl h.symm⟩
  unfold sigC
  split
  · exact nw _ _ _ (.inl rfl)
  · split
    · refine ⟨fun r hr => ?_, fun r q h => ?_⟩
      · unfold sDel; rw [if_neg]; exact fun e => hr (.inl e)
      · unfold sDel at h
        split at h
        · cases h
        · injection h with h; exact .inl h.symm
    · split
      · refine ⟨fun r hr => ?_, fun r q h => ?_⟩
        · unfold sMove; rw [if_neg (fun e => hr (.inl e)), if_neg (fun e => hr (.inr e))]
        · unfold sMove at h
          split at h
          · cases h
          · split at h
            · injection h with h; exact .inr (.inl h.symm)
            · injection h with h; exact .inl h.symm
      · split
        · refine ⟨fun r hr => ?_, fun r q h => ?_⟩
          · unfold sLink; rw [if_neg (fun e => hr (.inr e))]
          · unfold sLink at h
            split at h
            · injection h with h; exact .inr (.inl h.symm)
            · injection h with h; exact .inl h.symm
        · split
          · exact nw _ _ _ (.inl rfl)
          · split
            · exact nw _ _ _ (.inr rfl)
            · exact ol
theorem sig_data {c : Cmd} (h : c.op ≠ 7) (sd : List ByteArray) (D D' : ByteArray) : sigC c sd D = sigC c sd D' := by
  unfold sigC
  simp only [if_neg h]
/-- Far apart. -/
def Apart2 (X Y : ByteArray → Prop) : Prop := ∀ r, X r → ¬ Y r
def src2 (Y : ByteArray → Prop) [DecidablePred Y] (σ τ : ByteArray → Src) (q : ByteArray) : Src := if Y q then τ q else σ q
theorem act_k_eq (V : Vw) (σ : ByteArray → Src) (q : ByteArray) : (V.act σ).k q = match σ q with
    | .old r => V.k r
    | .gone => none
    | .fresh k _ => some k := rfl
theorem act_s_eq (V : Vw) (σ : ByteArray → Src) (a b : ByteArray) : (V.act σ).s a b = match σ a, σ b with
    | .old r, .old t => V.s r t
    | .fresh _ f, .fresh _ _ => f && decide (a = b)
    | _, _ => false := rfl
theorem act_act (V : Vw) {σ τ : ByteArray → Src} {X Y : ByteArray → Prop} [DecidablePred Y] (hσ : Near σ X) (hτ : Near τ Y) (hXY : Apart2 X Y) : (V.act σ).act τ = V.act (src2 Y σ τ) := by
  have hback : ∀ a r, Y a → τ a = .old r → σ r = .old r := fun a r ha h => by
    refine hσ.away r fun hx => ?_
    rcases hτ.from_ a r h with e | hy
    · exact hXY r hx (e ▸ ha)
    · exact hXY r hx hy
  refine Vw.ext2 (fun q => ?_) (fun a b => ?_)
  · rw [act_k_eq, act_k_eq]
    unfold src2
    by_cases hq : Y q
    · rw [if_pos hq]
      cases h : τ q with
      | old r =>
        simp only
        rw [act_k_eq, hback q r hq h]
      | gone => rfl
      | fresh k f => rfl
    · rw [if_neg hq, hτ.away q hq]
      rfl
  · rw [act_s_eq, act_s_eq]
    unfold src2
    by_cases ha : Y a <;> by_cases hb : Y b
    · rw [if_pos ha, if_pos hb]
      cases h : τ a with
      | old r =>
        cases h2 : τ b with
        | old r' => simp only; rw [act_s_eq, hback a r ha h, hback b r' hb h2]
        | gone => rfl
        | fresh k f => rfl
      | gone => cases h2 : τ b <;> rfl
      | fresh k f => cases h2 : τ b <;> rfl
    · rw [if_pos ha, if_neg hb, hτ.away b hb]
      have hne : ¬ a = b := fun e => hb (e ▸ ha)
      cases h : τ a with
      | old r => simp only; rw [act_s_eq, hback a r ha h]; cases σ b <;> rfl
      | gone => simp only
      | fresh k f => simp only; cases σ b <;> simp [hne]
    · rw [if_neg ha, if_pos hb, hτ.away a ha]
      have hne : ¬ a = b := fun e => ha (e ▸ hb)
      cases h : τ b with
      | old r => simp only; rw [act_s_eq, hback b r hb h]; cases σ a <;> rfl
      | gone => simp only; cases σ a <;> rfl
      | fresh k f => simp only; cases σ a <;> simp [hne]
    · rw [if_neg ha, if_neg hb, hτ.away a ha, hτ.away b hb]
      rfl
theorem act_comm (V : Vw) {σ τ : ByteArray → Src} {X Y : ByteArray → Prop} [DecidablePred X] [DecidablePred Y] (hσ : Near σ X) (hτ : Near τ Y) (hXY : Apart2 X Y) : (V.act σ).act τ = (V.act τ).act σ := by
  rw [act_act V hσ hτ hXY, act_act V hτ hσ (fun r hy hx => hXY r hx hy)]
  congr 1
  funext q
  unfold src2
  by_cases hx : X q <;> by_cases hy : Y q
  · exact absurd hy (hXY q hx)
  · rw [if_neg hy, if_pos hx]
  · rw [if_pos hy, if_neg hx]
  · rw [if_neg hy, if_neg hx, hσ.away q hx, hτ.away q hy]
theorem chm_comm (V : Vw) {τ : ByteArray → Src} {Y : ByteArray → Prop} [DecidablePred Y] (hτ : Near τ Y) {p : ByteArray} (hp : ¬ Y p) (m : Int) : (V.chm p m).act τ = (V.act τ).chm p m := by
  refine Vw.ext2 (fun q => ?_) (fun a b => rfl)
  show (match τ q with
    | .old r => (if r = p ∨ V.s p r = true then (V.k r).map (kdMode m) else V.k r)
    | .gone => none
    | .fresh k _ => some k) = if q = p ∨ (V.act τ).s p q = true then ((V.act τ).k q).map (kdMode m) else (V.act τ).k q
  rw [act_k_eq, act_s_eq, hτ.away p hp]
  have hne : ∀ {x}, τ q = x → (∀ r, x ≠ .old r) → ¬ q = p := fun {x} h hx e => by
    rw [e, hτ.away p hp] at h
    exact hx p h.symm
  cases h : τ q with
  | old r =>
    simp only
    have e : r = p ↔ q = p := by
      constructor
      · intro e
        rcases hτ.from_ q r h with e2 | hy
        · exact e2.symm.trans e
        · exact absurd (e ▸ hy) hp
      · intro e
        rw [e, hτ.away p hp] at h
        injection h with h; exact h.symm
    simp only [e]
  | gone => simp
  | fresh k f =>
    simp only
    rw [if_neg]
    rintro (h1 | h1)
    · exact hne h (fun r => by simp) h1
    · cases h1
/-- What two instructions far apart make of a look, either way. -/
theorem vDo_comm (V : Vw) {x y : Cmd} (sd : List ByteArray) (hX : Apart2 x.at y.at) (h7 : x.op ≠ 7 ∧ y.op ≠ 7) (h8 : ¬ (x.op = 8 ∧ y.op = 8)) : vDo (vDo V x sd) y sd = vDo (vDo V y sd) x sd := by
  have hx : ∀ D, sigC x sd D = sigC x sd ByteArray.empty := fun D => sig_data h7.1 sd D _
  have hy : ∀ D, sigC y sd D = sigC y sd ByteArray.empty := fun D => sig_data h7.2 sd D _
  unfold vDo
  simp only [hx, hy]
  by_cases ax : x.op = 8 <;> by_cases ay : y.op = 8
  · exact absurd ⟨ax, ay⟩ h8
  · rw [if_pos ax, if_neg ay, if_neg ay, if_pos ax]
    exact chm_comm V (sig_near y sd _) (hX _ (.inl rfl)) _
  · rw [if_neg ax, if_pos ay, if_pos ay, if_neg ax]
    exact (chm_comm V (sig_near x sd _) (fun h => hX _ h (.inl rfl)) _).symm
  · rw [if_neg ax, if_neg ay, if_neg ay, if_neg ax]
    exact act_comm V (sig_near x sd _) (sig_near y sd _) hX

/-- What is at a path that is not named: a directory stays one, a file stays one, with its bytes; only a chmod turns a mode. -/
theorem vDo_away (V : Vw) (c : Cmd) (sd : List ByteArray) {r : ByteArray} (hr : ¬ c.at r) : (c.op ≠ 8 → (vDo V c sd).k r = V.k r) ∧ ((vDo V c sd).k r = V.k r ∨ (V.s c.path r = true ∧ (vDo V c sd).k r = (V.k r).map (kdMode c.mode))) := by
  unfold vDo
  by_cases h8 : c.op = 8
  · rw [if_pos h8]
    refine ⟨fun h => absurd h8 h, ?_⟩
    show (if r = c.path ∨ V.s c.path r = true then (V.k r).map (kdMode c.mode) else V.k r) = _ ∨ _ ∧ (if r = c.path ∨ V.s c.path r = true then (V.k r).map (kdMode c.mode) else V.k r) = _
    by_cases hs : V.s c.path r = true
    · exact .inr ⟨hs, by rw [if_pos (.inr hs)]⟩
    · exact .inl (by rw [if_neg (fun h => h.elim (fun e => hr (.inl e)) hs)])
  · rw [if_neg h8]
    have : (V.act (sigC c sd (kdData (V.k c.path)))).k r = V.k r := act_k_of V _ ((sig_near c sd _).away r hr)
    exact ⟨fun _ => this, .inl this⟩
where act_k_of (V : Vw) (σ : ByteArray → Src) {r q : ByteArray} (h : σ r = .old q) : (V.act σ).k r = V.k q := by rw [act_k_eq, h]
theorem vDo_away_s (V : Vw) (c : Cmd) (sd : List ByteArray) {r q : ByteArray} (hr : ¬ c.at r) (hq : ¬ c.at q) : (vDo V c sd).s r q = V.s r q := by
  unfold vDo
  split
  · rfl
  · rw [act_s_eq, (sig_near c sd _).away r hr, (sig_near c sd _).away q hq]
theorem isD_map (k : Option Kd) (m : Int) : isD (k.map (kdMode m)) = isD k ∧ isF (k.map (kdMode m)) = isF k ∧ (k.map (kdMode m) = none ↔ k = none) := by
  cases k with
  | none => exact ⟨rfl, rfl, Iff.rfl⟩
  | some z => cases z <;> exact ⟨rfl, rfl, by simp⟩
theorem away_kind (V : Vw) (c : Cmd) (sd : List ByteArray) {r : ByteArray} (hr : ¬ c.at r) : isD ((vDo V c sd).k r) = isD (V.k r) ∧ isF ((vDo V c sd).k r) = isF (V.k r) ∧ ((vDo V c sd).k r = none ↔ V.k r = none) := by
  rcases (vDo_away V c sd hr).2 with h | ⟨_, h⟩
  · rw [h]; exact ⟨rfl, rfl, Iff.rfl⟩
  · rw [h]; exact isD_map _ _

/-- Paths that begin unlike. -/
def headB (s : ByteArray) : Option UInt8 := s.data.toList.head?
theorem head_extract {s : ByteArray} {i : Nat} (h : 0 < i) : headB (s.extract 0 i) = headB s := by
  unfold headB
  rw [ByteArray.data_extract, Array.toList_extract, List.extract_eq_take_drop, List.drop_zero, Nat.sub_zero]
  cases hl : s.data.toList with
  | nil => simp
  | cons a t =>
    cases i with
    | zero => omega
    | succ n => rfl
theorem valid_head {s : ByteArray} (h : validL s.data.toList = true) : ¬ s.data.toList[0]? = some 47 := fun e => by
  cases hl : s.data.toList with
  | nil => rw [hl] at e; cases e
  | cons a t =>
    rw [hl] at e h
    simp only [List.getElem?_cons_zero, Option.some.injEq] at e
    subst e
    unfold validL at h
    rw [vrun_slash_bad rfl rfl] at h
    cases h
theorem prefix_head {s : ByteArray} (h : validL s.data.toList = true) {i : Nat} (hi : s.data.toList[i]? = some 47) : headB (s.extract 0 i) = headB s := by
  cases i with
  | zero => exact absurd hi (valid_head h)
  | succ n => exact head_extract (Nat.succ_pos n)
theorem parent_head {s p : ByteArray} (hp : p.data.toList ≠ []) (h : parentB s = p) : headB s = headB p := by
  unfold parentB at h
  split at h
  · subst h
    cases hn : (lastIx s 47).toNat with
    | zero =>
      rw [hn] at hp
      exact absurd (by simp) hp
    | succ n => exact (head_extract (Nat.succ_pos n)).symm
  · subst h
    exact absurd rfl hp
theorem okUp_away {V : Vw} {c : Cmd} {sd : List ByteArray} {p : ByteArray} (hv : validL p.data.toList = true) (hf : ∀ r, c.at r → headB r ≠ headB p) : OkUp (vDo V c sd) p ↔ OkUp V p := by
  have key : ∀ i, p.data.toList[i]? = some 47 → isD ((vDo V c sd).k (p.extract 0 i)) = isD (V.k (p.extract 0 i)) := fun i hi =>
    (away_kind V c sd fun h => hf _ h (prefix_head hv hi)).1
  constructor
  · intro h i h1 h2; rw [← key i h2]; exact h i h1 h2
  · intro h i h1 h2; rw [key i h2]; exact h i h1 h2
theorem vOp_away {V : Vw} {x y : Cmd} {sd : List ByteArray} (hf : ∀ a b, x.at a → y.at b → headB a ≠ headB b) (v1 : validL y.path.data.toList = true) (v2 : toB y.op = true → validL y.dst.data.toList = true) (h9 : isOp y.op = true ∧ y.op ≠ 9) : vOp (vDo V x sd) y ↔ vOp V y := by
  have up := okUp_away (V := V) (c := x) (sd := sd) v1 (fun r hr => hf r _ hr (.inl rfl))
  have kp := away_kind V x sd (r := y.path) (fun h => hf _ _ h (.inl rfl) rfl)
  unfold vOp
  split
  · rw [up, kp.2.2]
  · split
    · rw [up, kp.1]
      refine and_congr_right fun _ => and_congr_right fun _ => forall_congr' fun q => ?_
      by_cases hq : parentB q = y.path
      · have hh := parent_head (valid_ne v1) hq
        have := (away_kind V x sd (r := q) (fun h => hf _ _ h (.inl rfl) hh)).2.2
        rw [Ne, Ne, this]
      · simp [hq]
    · split
      · rw [up, kp.2.1]
      · split
        · rw [up, Ne, Ne, kp.2.2]
        · rename_i h1 h2 h3 h4
          have hop : 1 ≤ y.op ∧ y.op ≤ 9 := by simpa [isOp] using h9.1
          have ht : toB y.op = true := by simp [toB]; omega
          have ud := okUp_away (V := V) (c := x) (sd := sd) (v2 ht) (fun r hr => hf r _ hr (.inr rfl))
          have kd := away_kind V x sd (r := y.dst) (fun h => hf _ _ h (.inr rfl) rfl)
          rw [up, kp.2.1, ud, kd.2.2]
theorem do_len (M : PW) (c : Cmd) (sd : List ByteArray) : (doM M c sd).nodes.length ≤ M.nodes.length + 1 := by
  have tk : ∀ (N : PW) p, (N.takeAt p).nodes.length ≤ N.nodes.length := fun N p => by
    unfold PW.takeAt
    split
    · exact List.length_filter_le _ _
    · exact Nat.le_refl _
  unfold doM
  split
  · unfold opM
    split
    · simp [PW.put]
    · split
      · have := tk M c.path; omega
      · split
        · have := tk (M.put ⟨c.dst, lookF M.nodes c.path, 0, c.hd⟩) c.path
          simp only [PW.put, List.length_append, List.length_cons, List.length_nil] at this ⊢
          exact this
        · split
          · simp [PW.put]
          · split
            · simp [PW.made]
            · split
              · simp [PW.made]
              · rw [(chmod_len M c.path c.mode).1]; omega
  · omega
theorem do_indep {M : PW} (hM : WOkP M) (hl : M.nodes.length ≤ 250) {x y : Cmd} {sd : List ByteArray} (hf : ∀ a b, x.at a → y.at b → headB a ≠ headB b) (hx : doE M x sd = 0) : doE (doM M x sd) y sd = 0 ↔ doE M y sd = 0 := by
  have hvw := vw_do hM.inv hx
  have hlen := do_len M x sd
  rw [do0_iff, do0_iff, hvw]
  refine and_congr_right fun hop => ?_
  by_cases h9 : y.op = 9
  · simp [h9]
  · simp only [h9, false_or]
    refine and_congr_right fun h1 => ?_
    obtain ⟨_, v1, v2, _⟩ := first0 h1
    rw [vOp_away hf v1 v2 ⟨hop, h9⟩]
    refine and_congr_left fun _ => ?_
    constructor <;> intro _ _ <;> omega
def runE (M : PW) (x y : Cmd) (sd : List ByteArray) : Prop := doE M x sd = 0 ∧ doE (doM M x sd) y sd = 0
theorem runE_swap {M : PW} (hM : WOkP M) (hl : M.nodes.length ≤ 250) {x y : Cmd} {sd : List ByteArray} (hf : ∀ a b, x.at a → y.at b → headB a ≠ headB b) : runE M x y sd ↔ runE M y x sd := by
  have hg : ∀ a b, y.at a → x.at b → headB a ≠ headB b := fun a b ha hb e => hf b a hb ha e.symm
  constructor
  · rintro ⟨h1, h2⟩
    have h3 := (do_indep hM hl hf h1).1 h2
    exact ⟨h3, (do_indep hM hl hg h3).2 h1⟩
  · rintro ⟨h1, h2⟩
    have h3 := (do_indep hM hl hg h1).1 h2
    exact ⟨h3, (do_indep hM hl hf h3).2 h1⟩
theorem run2 (sd : List ByteArray) (M : PW) (x y : Cmd) : ((runG sd [x, y] M 0).2.2 = 0 ↔ runE M x y sd) ∧ (runE M x y sd → (runG sd [x, y] M 0).1 = doM (doM M x sd) y sd) := by
  unfold runE
  rw [runG]
  by_cases h1 : doE M x sd = 0
  · rw [if_pos h1, runG]
    by_cases h2 : doE (doM M x sd) y sd = 0
    · rw [if_pos h2]
      exact ⟨⟨fun _ => ⟨h1, h2⟩, fun _ => rfl⟩, fun _ => rfl⟩
    · rw [if_neg h2]
      exact ⟨⟨fun h => absurd h h2, fun h => absurd h.2 h2⟩, fun h => absurd h.2 h2⟩
  · rw [if_neg h1]
    exact ⟨⟨fun h => absurd h h1, fun h => absurd h.1 h1⟩, fun h => absurd h.1 h1⟩
/-- The law of ModelSwap. -/
theorem swap_law {t : TV} {ds : List ByteArray} {w : World} (hT : TreeD w t ds) (hn : t.nn ≤ 250) {x y : Cmd} {sd : List ByteArray} (hf : ∀ a b, x.at a → y.at b → headB a ≠ headB b) :
    ((runR t ds [x, y] sd).2.2 = 0 ↔ (runR t ds [y, x] sd).2.2 = 0) ∧ ((runR t ds [x, y] sd).2.2 = 0 → x.op ≠ 7 ∧ y.op ≠ 7 → ¬ (x.op = 8 ∧ y.op = 8) → SameV (runR t ds [x, y] sd).1 (runR t ds [y, x] sd).1) := by
  by_cases hl : looseE t = 0
  · have e : ∀ cs, runR t ds cs sd = runG sd cs (openM t ds) 0 := fun cs => by unfold runR; rw [if_pos hl]
    have hM := open_ok hT hl
    have hlen : (openM t ds).nodes.length ≤ 250 := by show t.nodes.length ≤ 250; rw [hT.tree.nl]; exact hn
    rw [e, e]
    obtain ⟨a1, a2⟩ := run2 sd (openM t ds) x y
    obtain ⟨b1, b2⟩ := run2 sd (openM t ds) y x
    have hs := runE_swap (sd := sd) hM hlen hf
    refine ⟨a1.trans (hs.trans b1.symm), fun h h7 h8 => ?_⟩
    have h1 := a1.1 h
    have h2 := hs.1 h1
    rw [a2 h1, b2 h2]
    have o1 := (hM.do x sd).do y sd
    have o2 := (hM.do y sd).do x sd
    refine SameV.of_vw ?_ o1.inv.apart o2.inv.apart
    rw [vw_do (hM.do x sd).inv h1.2, vw_do hM.inv h1.1, vw_do (hM.do y sd).inv h2.2, vw_do hM.inv h2.1]
    exact vDo_comm _ sd (fun r hx hy => hf r r hx hy rfl) h7 h8
  · have e : ∀ cs, runR t ds cs sd = (openM zeroTV [], 0, looseE t) := fun cs => by unfold runR; rw [if_neg hl]
    rw [e, e]
    exact ⟨Iff.rfl, fun h => absurd h hl⟩
end Go.Proofs.Ythmeffpickejkaa
