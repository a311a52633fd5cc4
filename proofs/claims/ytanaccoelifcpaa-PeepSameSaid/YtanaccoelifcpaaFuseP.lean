/- What the rules of peep make of a list plays like the list: no program in sight. -/
import Derived.Test.YtanaccoelifcpaaViews
import Derived.Test.YtanaccoelifcpaaCurves
import Derived.Test.YtanaccoelifcpaaPlain
namespace Go.Proofs.Ytanaccoelifcpaa
open Go.RowKit

def Cmd.ins (c : Cmd) : Ins := ⟨c.op, c.path, c.dst, c.mode, c.ref⟩
theorem insL_cmds (cs : List Cmd) : insL (cs.map Cmd.ins) = cs.flatMap Cmd.list := by
  unfold insL
  induction cs with
  | nil => rfl
  | cons c cs ih => rw [List.map_cons, List.flatMap_cons, List.flatMap_cons, ih]; rfl
/-- All are done. -/
def okR (sd : List ByteArray) : List Cmd → PW → Prop
  | [], _ => True
  | c :: cs, M => doE M c sd = 0 ∧ okR sd cs (doM M c sd)
def endM (sd : List ByteArray) : List Cmd → PW → PW
  | [], M => M
  | c :: cs, M => endM sd cs (doM M c sd)
def wayM (sd : List ByteArray) : List Cmd → PW → List PW
  | [], M => [M]
  | c :: cs, M => M :: wayM sd cs (doM M c sd)
theorem ok_run (sd : List ByteArray) : ∀ (cs : List Cmd) (M : PW) (k : Nat), (runG sd cs M k).2.2 = 0 ↔ okR sd cs M
  | [], M, k => ⟨fun _ => trivial, fun _ => rfl⟩
  | c :: cs, M, k => by
    rw [runG, okR]
    by_cases h : doE M c sd = 0
    · rw [if_pos h, ok_run sd cs]; exact ⟨fun e => ⟨h, e⟩, fun e => e.2⟩
    · rw [if_neg h]; exact ⟨fun e => absurd e h, fun e => absurd e.1 h⟩
theorem end_run (sd : List ByteArray) : ∀ (cs : List Cmd) (M : PW) (k : Nat), okR sd cs M → (runG sd cs M k).1 = endM sd cs M
  | [], M, k, _ => rfl
  | c :: cs, M, k, h => by
    rw [runG, endM, if_pos h.1]
    exact end_run sd cs _ _ h.2
theorem way_curve (sd : List ByteArray) : ∀ (cs : List Cmd) (M : PW), okR sd cs M → wgM M :: curveT sd cs M = (wayM sd cs M).map wgM
  | [], M, _ => rfl
  | c :: cs, M, h => by
    rw [curveT, wayM, if_pos h.1, List.map_cons, ← way_curve sd cs _ h.2]
theorem way_take (sd : List ByteArray) : ∀ (cs : List Cmd) (M : PW), okR sd cs M → ∀ X ∈ wayM sd cs M, ∃ k, k ≤ cs.length ∧ ∀ j, X = (runG sd (cs.take k) M j).1
  | [], M, _, X, hX => by
    obtain rfl := List.mem_singleton.1 hX
    exact ⟨0, Nat.le_refl _, fun _ => rfl⟩
  | c :: cs, M, h, X, hX => by
    rcases List.mem_cons.1 hX with rfl | hX
    · exact ⟨0, Nat.zero_le _, fun _ => rfl⟩
    · obtain ⟨k, hk, e⟩ := way_take sd cs _ h.2 X hX
      refine ⟨k + 1, by simp; omega, fun j => ?_⟩
      rw [List.take_succ_cons, runG, if_pos h.1]
      exact e _
theorem end_ok (sd : List ByteArray) : ∀ (cs : List Cmd) {M : PW}, WOkP M → WOkP (endM sd cs M)
  | [], _, h => h
  | c :: cs, _, h => end_ok sd cs (h.do c sd)
theorem way_ok (sd : List ByteArray) : ∀ (cs : List Cmd) {M : PW}, WOkP M → ∀ X ∈ wayM sd cs M, WOkP X
  | [], M, h, X, hX => by obtain rfl := List.mem_singleton.1 hX; exact h
  | c :: cs, M, h, X, hX => by
    rcases List.mem_cons.1 hX with rfl | hX
    · exact h
    · exact way_ok sd cs (h.do c sd) X hX
theorem way_first (sd : List ByteArray) (cs : List Cmd) (M : PW) : M ∈ wayM sd cs M := by
  cases cs with
  | nil => exact List.mem_singleton.2 rfl
  | cons c cs => exact List.mem_cons_self ..
theorem way_last (sd : List ByteArray) : ∀ (cs : List Cmd) (M : PW), endM sd cs M ∈ wayM sd cs M
  | [], M => List.mem_singleton.2 rfl
  | c :: cs, M => List.mem_cons_of_mem _ (way_last sd cs _)
theorem way_short (sd : List ByteArray) {z : List Cmd} (hz : z.length ≤ 1) {M X : PW} (h : X ∈ wayM sd z M) : X = M ∨ X = endM sd z M := by
  match z, hz with
  | [], _ => exact .inl (List.mem_singleton.1 h)
  | [c], _ =>
    rcases List.mem_cons.1 h with rfl | h
    · exact .inl rfl
    · exact .inr (List.mem_singleton.1 h)
theorem ok_app (sd : List ByteArray) (b : List Cmd) : ∀ (a : List Cmd) (M : PW), okR sd (a ++ b) M ↔ okR sd a M ∧ okR sd b (endM sd a M)
  | [], M => ⟨fun h => ⟨trivial, h⟩, fun h => h.2⟩
  | c :: a, M => by
    rw [List.cons_append, okR, okR, endM, ok_app sd b a]
    exact ⟨fun h => ⟨⟨h.1, h.2.1⟩, h.2.2⟩, fun h => ⟨h.1.1, h.1.2, h.2⟩⟩
theorem end_app (sd : List ByteArray) (b : List Cmd) : ∀ (a : List Cmd) (M : PW), endM sd (a ++ b) M = endM sd b (endM sd a M)
  | [], M => rfl
  | c :: a, M => end_app sd b a _
theorem way_app (sd : List ByteArray) (b : List Cmd) : ∀ (a : List Cmd) (M X : PW), X ∈ wayM sd (a ++ b) M ↔ X ∈ wayM sd a M ∨ X ∈ wayM sd b (endM sd a M)
  | [], M, X => by
    refine ⟨fun h => .inr h, fun h => ?_⟩
    rcases h with h | h
    · obtain rfl := List.mem_singleton.1 h
      exact way_first sd b _
    · exact h
  | c :: a, M, X => by
    rw [List.cons_append, wayM, wayM, endM, List.mem_cons, List.mem_cons, way_app sd b a, or_assoc]
/-- A list plays like another: where that is done this is done, ends alike, and every world on its way is alike to one on that way. -/
def Leads (sd : List ByteArray) (a b : List Cmd) : Prop := ∀ M N, WOkP M → WOkP N → SameV M N → okR sd a M → okR sd b N ∧ SameV (endM sd a M) (endM sd b N) ∧ ∀ X ∈ wayM sd b N, ∃ Y ∈ wayM sd a M, SameV Y X
theorem Leads.refl (sd : List ByteArray) : ∀ a : List Cmd, Leads sd a a
  | [] => fun M N _ _ hV _ => ⟨trivial, hV, fun X hX => ⟨M, List.mem_singleton.2 rfl, by obtain rfl := List.mem_singleton.1 hX; exact hV⟩⟩
  | c :: a => fun M N hM hN hV h => by
    obtain ⟨r1, r2, r3⟩ := Leads.refl sd a _ _ (hM.do c sd) (hN.do c sd) (hV.do hM hN c sd) h.2
    refine ⟨⟨(hV.doE hM.inv hN.inv c sd).symm.trans h.1, r1⟩, r2, fun X hX => ?_⟩
    rcases List.mem_cons.1 hX with rfl | hX
    · exact ⟨M, List.mem_cons_self .., hV⟩
    · obtain ⟨Y, hY, e⟩ := r3 X hX
      exact ⟨Y, List.mem_cons_of_mem _ hY, e⟩
theorem Leads.trans {sd : List ByteArray} {a b c : List Cmd} (h : Leads sd a b) (k : Leads sd b c) : Leads sd a c := fun M N hM hN hV ha => by
  obtain ⟨r1, r2, r3⟩ := h M M hM hM (SameV.refl M) ha
  obtain ⟨s1, s2, s3⟩ := k M N hM hN hV r1
  refine ⟨s1, r2.trans s2, fun X hX => ?_⟩
  obtain ⟨Y, hY, e⟩ := s3 X hX
  obtain ⟨Z, hZ, f⟩ := r3 Y hY
  exact ⟨Z, hZ, f.trans e⟩
theorem Leads.app {sd : List ByteArray} {a b c d : List Cmd} (h : Leads sd a b) (k : Leads sd c d) : Leads sd (a ++ c) (b ++ d) := fun M N hM hN hV ha => by
  obtain ⟨a1, a2⟩ := (ok_app sd c a M).1 ha
  obtain ⟨r1, r2, r3⟩ := h M N hM hN hV a1
  obtain ⟨s1, s2, s3⟩ := k _ _ (end_ok sd a hM) (end_ok sd b hN) r2 a2
  refine ⟨(ok_app sd d b N).2 ⟨r1, s1⟩, by rw [end_app, end_app]; exact s2, fun X hX => ?_⟩
  rcases (way_app sd d b N X).1 hX with hX | hX
  · obtain ⟨Y, hY, e⟩ := r3 X hX
    exact ⟨Y, (way_app sd c a M Y).2 (.inl hY), e⟩
  · obtain ⟨Y, hY, e⟩ := s3 X hX
    exact ⟨Y, (way_app sd c a M Y).2 (.inr hY), e⟩
/-- Two become none or one. -/
theorem leads_of {sd : List ByteArray} {x y : Cmd} {z : List Cmd} (hz : z.length ≤ 1) (h : ∀ M, WOkP M → doE M x sd = 0 → doE (doM M x sd) y sd = 0 → okR sd z M ∧ (doM (doM M x sd) y sd).vw = (endM sd z M).vw) : Leads sd [x, y] z := fun M N hM hN hV ha => by
  obtain ⟨r1, r2⟩ := h M hM ha.1 ha.2.1
  have r2' : SameV (endM sd [x, y] M) (endM sd z M) := SameV.of_vw r2 ((hM.do x sd).do y sd).inv.apart (end_ok sd z hM).inv.apart
  obtain ⟨s1, s2, s3⟩ := Leads.refl sd z M N hM hN hV r1
  refine ⟨s1, r2'.trans s2, fun X hX => ?_⟩
  obtain ⟨Y, hY, e⟩ := s3 X hX
  rcases way_short sd hz hY with rfl | rfl
  · exact ⟨Y, way_first sd _ _, e⟩
  · exact ⟨endM sd [x, y] M, way_last sd _ _, r2'.trans e⟩
/-- What is not done is not there, or is a sync. -/
theorem sync_none {sd : List ByteArray} {c : Cmd} (h9 : c.op = 9) : Leads sd [c] [] := fun M N hM hN hV _ => by
  have e : doM M c sd = M := by unfold doM; rw [if_neg (fun e => e.2 h9)]
  exact ⟨trivial, by show SameV (doM M c sd) N; rw [e]; exact hV, fun X hX => ⟨M, way_first sd _ _, by obtain rfl := List.mem_singleton.1 hX; exact hV⟩⟩
theorem none_sync {sd : List ByteArray} {c : Cmd} (h9 : c.op = 9) : Leads sd [] [c] := fun M N hM hN hV _ => by
  have e : doM N c sd = N := by unfold doM; rw [if_neg (fun e => e.2 h9)]
  have e0 : doE N c sd = 0 := (do0_iff N c sd).2 ⟨by rw [h9]; rfl, .inl h9⟩
  refine ⟨⟨e0, trivial⟩, by show SameV M (doM N c sd); rw [e]; exact hV, fun X hX => ⟨M, way_first sd _ _, ?_⟩⟩
  rw [wayM, e] at hX
  rcases List.mem_cons.1 hX with rfl | hX
  · exact hV
  · obtain rfl := List.mem_singleton.1 hX; exact hV
theorem filter_leads {sd : List ByteArray} (f : Cmd → Bool) (hf : ∀ c, f c = false → c.op = 9) : ∀ cs : List Cmd, Leads sd cs (cs.filter f)
  | [] => Leads.refl sd []
  | c :: cs => by
    have ih := filter_leads (sd := sd) f hf cs
    cases h : f c with
    | true => rw [List.filter_cons_of_pos h]; exact Leads.app (Leads.refl sd [c]) ih
    | false => rw [List.filter_cons_of_neg (by simp [h])]; exact Leads.app (sync_none (hf c h)) ih
/-- Looks. -/
theorem act_none {M : PW} {σ τ : ByteArray → Src} (h : ∀ a, σ a = τ a ∨ (σ a = .gone ∧ ∃ r, τ a = .old r ∧ M.vw.k r = none)) : M.vw.act σ = M.vw.act τ := by
  have hs : ∀ p, M.vw.k p = none → ∀ q, M.vw.s p q = false ∧ M.vw.s q p = false := fun p hp q => sB_none (show kindL M.nodes M.F p = none from hp) q
  refine Vw.ext2 (fun q => ?_) (fun a b => ?_)
  · rw [act_k_eq, act_k_eq]
    rcases h q with e | ⟨e, r, e2, e3⟩
    · rw [e]
    · rw [e, e2]; exact e3.symm
  · rw [act_s_eq, act_s_eq]
    rcases h a with ea | ⟨ea, r, ea2, ea3⟩ <;> rcases h b with eb | ⟨eb, t, eb2, eb3⟩
    · rw [ea, eb]
    · rw [ea, eb, eb2]
      cases τ a with
      | old p => exact (hs t eb3 p).2.symm
      | gone => rfl
      | fresh k f => rfl
    · rw [ea, ea2, eb]
      cases τ b with
      | old p => exact (hs r ea3 p).1.symm
      | gone => rfl
      | fresh k f => rfl
    · rw [ea, ea2, eb, eb2]
      exact (hs r ea3 t).1.symm
def overS (σ τ : ByteArray → Src) (a : ByteArray) : Src := match τ a with
  | .old r => σ r
  | .gone => .gone
  | .fresh k f => .fresh k f
theorem act_over (V : Vw) {σ τ : ByteArray → Src} (hσ : ∀ a, (∃ r, σ a = .old r) ∨ σ a = .gone) (hτ : ∀ a, (∃ r, τ a = .old r) ∨ τ a = .gone) : (V.act σ).act τ = V.act (overS σ τ) := by
  refine Vw.ext2 (fun q => ?_) (fun a b => ?_)
  · rw [act_k_eq, act_k_eq]
    unfold overS
    rcases hτ q with ⟨r, e⟩ | e
    · rw [e]; exact act_k_eq V σ r
    · rw [e]
  · rw [act_s_eq, act_s_eq]
    unfold overS
    rcases hτ a with ⟨r, ea⟩ | ea <;> rcases hτ b with ⟨t, eb⟩ | eb
    · simp only [ea, eb]
      rw [act_s_eq]
      rcases hσ r with ⟨r', er⟩ | er <;> rcases hσ t with ⟨t', et⟩ | et <;> rw [er, et]
    · simp only [ea, eb]
      rcases hσ r with ⟨r', er⟩ | er <;> rw [er]
    · simp only [ea, eb]
    · simp only [ea, eb]
theorem move_plain (p d a : ByteArray) : (∃ r, sMove p d a = .old r) ∨ sMove p d a = .gone := by
  unfold sMove
  split
  · exact .inr rfl
  · split
    · exact .inl ⟨_, rfl⟩
    · exact .inl ⟨_, rfl⟩
theorem move_move {M : PW} {q p r : ByteArray} (hp : M.vw.k p = none) (hqr : ¬ q = r) (hrp : ¬ r = p) (hqp : ¬ q = p) : (M.vw.act (sMove q p)).act (sMove p r) = M.vw.act (sMove q r) := by
  rw [act_over _ (move_plain q p) (move_plain p r)]
  refine act_none fun a => ?_
  unfold overS sMove
  by_cases e1 : a = p
  · right
    rw [if_pos e1, if_neg (by rw [e1]; exact fun e => hqp e.symm), if_neg (by rw [e1]; exact fun e => hrp e.symm)]
    exact ⟨rfl, a, rfl, by rw [e1]; exact hp⟩
  · left
    rw [if_neg e1]
    by_cases e2 : a = r
    · rw [if_pos e2, if_neg (by rw [e2]; exact fun e => hqr e.symm), if_pos e2]
      simp only
      rw [if_neg (fun e => hqp e.symm)]
      exact if_pos trivial
    · rw [if_neg e2]
      simp only
      by_cases e3 : a = q
      · rw [if_pos e3, if_pos e3]
      · rw [if_neg e3, if_neg e1, if_neg e3, if_neg e2]
theorem new_chm (V : Vw) (p : ByteArray) (k : Kd) (f : Bool) (m : Int) : (V.act (sNew p k f)).chm p m = V.act (sNew p (kdMode m k) f) := by
  refine Vw.ext2 (fun q => ?_) (fun a b => ?_)
  · show (if q = p ∨ (V.act (sNew p k f)).s p q = true then ((V.act (sNew p k f)).k q).map (kdMode m) else (V.act (sNew p k f)).k q) = _
    rw [act_s_eq, act_k_eq, act_k_eq]
    unfold sNew
    by_cases e : q = p
    · rw [if_pos (.inl e), if_pos e, if_pos e]; rfl
    · rw [if_pos rfl, if_neg e, if_neg e, if_neg]
      rintro (h | h)
      · exact e h
      · cases h
  · show (V.act (sNew p k f)).s a b = _
    rw [act_s_eq, act_s_eq]
    unfold sNew
    by_cases e1 : a = p <;> by_cases e2 : b = p
    · rw [if_pos e1, if_pos e1, if_pos e2, if_pos e2]
    · rw [if_pos e1, if_pos e1, if_neg e2, if_neg e2]
    · rw [if_neg e1, if_neg e1, if_pos e2, if_pos e2]
    · rw [if_neg e1, if_neg e1, if_neg e2, if_neg e2]
theorem kdMode2 (m n : Int) (k : Kd) : kdMode n (kdMode m k) = kdMode n k := by cases k <;> rfl
theorem chm_chm (V : Vw) (p : ByteArray) (m n : Int) : (V.chm p m).chm p n = V.chm p n := by
  refine Vw.ext2 (fun q => ?_) (fun a b => rfl)
  show (if q = p ∨ V.s p q = true then (if q = p ∨ V.s p q = true then (V.k q).map (kdMode m) else V.k q).map (kdMode n) else (if q = p ∨ V.s p q = true then (V.k q).map (kdMode m) else V.k q)) = (if q = p ∨ V.s p q = true then (V.k q).map (kdMode n) else V.k q)
  by_cases e : q = p ∨ V.s p q = true
  · rw [if_pos e, if_pos e, if_pos e]
    cases V.k q with
    | none => rfl
    | some k => simp only [Option.map_some, kdMode2]
  · rw [if_neg e, if_neg e, if_neg e]
theorem firstE_all {T Md : Bool} {c : Cmd} {ds : List ByteArray} (hm : Md = true → 0 ≤ c.mode ∧ c.mode ≤ 511) (hp : validL c.path.data.toList = true) (hd : T = true → validL c.dst.data.toList = true) (h6 : c.op = 6 → 0 ≤ c.ref ∧ c.ref < ds.length ∧ (refData c ds).size ≤ 8192) : firstE T Md c ds = 0 := by
  unfold firstE
  rw [if_neg, if_neg, if_neg]
  · split
    · rename_i h
      obtain ⟨a, b, d⟩ := h6 h
      rw [if_neg (by omega), if_neg]
      unfold refData at d
      obtain ⟨i, hi⟩ : ∃ i, c.ref.toNat = i := ⟨_, rfl⟩
      rw [hi] at d ⊢
      cases hx : ds[i]? with
      | none => simp
      | some x => rw [hx] at d; simp only [Option.getD_some, Option.map_some] at d ⊢; omega
    · rfl
  · rintro (h | ⟨h1, h2⟩)
    · rw [hp] at h; cases h
    · rw [hd h1] at h2; cases h2
  · rintro (h | ⟨h1, h2⟩)
    · exact valid_ne hp h
    · exact valid_ne (hd h1) h2
  · rintro ⟨h1, h2⟩
    have := hm h1
    omega
theorem did {M : PW} {c : Cmd} {sd : List ByteArray} (h : doE M c sd = 0) (h9 : c.op ≠ 9) : firstE (toB c.op) (modeB c.op) c sd = 0 ∧ (growB c.op = true → M.nodes.length < 256) ∧ vOp M.vw c := ((do0_iff M c sd).1 h).2.resolve_left h9
theorem done_of {M : PW} {c : Cmd} {sd : List ByteArray} (hi : isOp c.op = true) (h1 : firstE (toB c.op) (modeB c.op) c sd = 0) (h2 : growB c.op = true → M.nodes.length < 256) (h3 : vOp M.vw c) : doE M c sd = 0 := (do0_iff M c sd).2 ⟨hi, .inr ⟨h1, h2, h3⟩⟩
theorem vOp_new {V : Vw} {c : Cmd} (h : c.op = 1 ∨ c.op = 6) : vOp V c ↔ OkUp V c.path ∧ V.k c.path = none := by
  unfold vOp; rw [if_pos h]
theorem vOp_chm {V : Vw} {c : Cmd} (h : c.op = 8) : vOp V c ↔ OkUp V c.path ∧ V.k c.path ≠ none := by
  unfold vOp; rw [if_neg (by omega), if_neg (by omega), if_neg (by omega), if_pos h]
theorem vOp_two {V : Vw} {c : Cmd} (h : c.op = 3 ∨ c.op = 4 ∨ c.op = 7) : vOp V c ↔ (OkUp V c.path ∧ isF (V.k c.path) = true) ∧ OkUp V c.dst ∧ V.k c.dst = none := by
  unfold vOp; rw [if_neg (by omega), if_neg (by omega), if_neg (by omega), if_neg (by omega)]
theorem vDo_1 {V : Vw} {c : Cmd} (sd : List ByteArray) (h : c.op = 1) : vDo V c sd = V.act (sNew c.path (.dir c.mode) false) := by
  unfold vDo sigC; rw [if_neg (by omega), if_pos h]
theorem vDo_25 {V : Vw} {c : Cmd} (sd : List ByteArray) (h : c.op = 2 ∨ c.op = 5) : vDo V c sd = V.act (sDel c.path) := by
  unfold vDo sigC; rw [if_neg (by omega), if_neg (by omega), if_pos h]
theorem vDo_3 {V : Vw} {c : Cmd} (sd : List ByteArray) (h : c.op = 3) : vDo V c sd = V.act (sMove c.path c.dst) := by
  unfold vDo sigC; rw [if_neg (by omega), if_neg (by omega), if_neg (by omega), if_pos h]
theorem vDo_4 {V : Vw} {c : Cmd} (sd : List ByteArray) (h : c.op = 4) : vDo V c sd = V.act (sLink c.path c.dst) := by
  unfold vDo sigC; rw [if_neg (by omega), if_neg (by omega), if_neg (by omega), if_neg (by omega), if_pos h]
theorem vDo_6 {V : Vw} {c : Cmd} (sd : List ByteArray) (h : c.op = 6) : vDo V c sd = V.act (sNew c.path (.file c.mode (refData c sd)) true) := by
  unfold vDo sigC; rw [if_neg (by omega), if_neg (by omega), if_neg (by omega), if_neg (by omega), if_neg (by omega), if_pos h]
theorem vDo_7 {V : Vw} {c : Cmd} (sd : List ByteArray) (h : c.op = 7) : vDo V c sd = V.act (sNew c.dst (.file c.mode (kdData (V.k c.path))) true) := by
  unfold vDo sigC; rw [if_neg (by omega), if_neg (by omega), if_neg (by omega), if_neg (by omega), if_neg (by omega), if_neg (by omega), if_pos h]
theorem vDo_8 {V : Vw} {c : Cmd} (sd : List ByteArray) (h : c.op = 8) : vDo V c sd = V.chm c.path c.mode := by
  unfold vDo; rw [if_pos h]
theorem vw2 {M : PW} (hM : WOkP M) {x y : Cmd} {sd : List ByteArray} (h1 : doE M x sd = 0) (h2 : doE (doM M x sd) y sd = 0) : (doM (doM M x sd) y sd).vw = vDo (vDo M.vw x sd) y sd := by
  rw [vw_do (hM.do x sd).inv h2, vw_do hM.inv h1]
/-- Two that make and unmake. -/
theorem two_none {sd : List ByteArray} {x y : Cmd} (h : ∀ M, WOkP M → doE M x sd = 0 → doE (doM M x sd) y sd = 0 → vDo (vDo M.vw x sd) y sd = M.vw) : Leads sd [x, y] [] :=
  leads_of (by simp) fun M hM h1 h2 => ⟨trivial, (vw2 hM h1 h2).trans (h M hM h1 h2)⟩
theorem two_one {sd : List ByteArray} {x y z : Cmd} (h : ∀ M, WOkP M → doE M x sd = 0 → doE (doM M x sd) y sd = 0 → doE M z sd = 0 ∧ vDo (vDo M.vw x sd) y sd = vDo M.vw z sd) : Leads sd [x, y] [z] :=
  leads_of (by simp) fun M hM h1 h2 => by
    obtain ⟨a, b⟩ := h M hM h1 h2
    exact ⟨⟨a, trivial⟩, (vw2 hM h1 h2).trans (b.trans (vw_do hM.inv a).symm)⟩
variable {sd : List ByteArray} {x y : Cmd}
theorem lead1 (hx : x.op = 4) (hy : y.op = 5) (hp : x.path = y.path) : Leads sd [x, y] [⟨3, x.path, x.dst, 0, 0, x.hp, x.hd⟩] := two_one fun M hM h1 h2 => by
  obtain ⟨f1, _, v1⟩ := did h1 (by omega)
  obtain ⟨_, p1, p2, _⟩ := first0 f1
  refine ⟨done_of rfl (firstE_all (fun h => by cases h) p1 (fun _ => p2 (by rw [hx]; rfl)) (fun h => by cases h)) (fun h => by cases h) ((vOp_two (.inl rfl)).2 ((vOp_two (.inr (.inl hx))).1 v1)), ?_⟩
  rw [vDo_4 sd hx, vDo_25 sd (.inr hy), vDo_3 sd rfl, ← hp, ← move_act, link_act, del_act]
theorem lead2 (hx : x.op = 3) (hy : y.op = 3) (hp : x.dst = y.path) (hn : ¬ x.path = y.dst) : Leads sd [x, y] [⟨3, x.path, y.dst, 0, 0, x.hp, y.hd⟩] := two_one fun M hM h1 h2 => by
  obtain ⟨f1, _, v1⟩ := did h1 (by omega)
  obtain ⟨_, p1, _, _⟩ := first0 f1
  obtain ⟨f2, _, v2⟩ := did h2 (by omega)
  obtain ⟨_, _, p3, _⟩ := first0 f2
  obtain ⟨⟨a1, a2⟩, a3, a4⟩ := (vOp_two (.inl hx)).1 v1
  obtain ⟨⟨b1, b2⟩, b3, b4⟩ := (vOp_two (.inl hy)).1 v2
  rw [vw_do hM.inv h1, vDo_3 sd hx] at b1 b2 b3 b4
  have hqp : ¬ x.path = x.dst := fun e => by rw [e, a4] at a2; cases a2
  have hrp : ¬ y.dst = x.dst := fun e => by
    rw [← hp] at b2
    rw [e] at b4
    rw [b4] at b2
    cases b2
  have m1 : ∀ a, ¬ a = x.path → ¬ a = x.dst → sMove x.path x.dst a = .old a := fun a e f => by unfold sMove; rw [if_neg e, if_neg f]
  have k4 : M.vw.k y.dst = none := by rw [act_k (m1 y.dst (fun e => hn e.symm) hrp)] at b4; exact b4
  have k3 : OkUp M.vw y.dst := fun i hi h3 => by
    have := b3 i hi h3
    by_cases e1 : y.dst.extract 0 i = x.path
    · rw [act_gone (by unfold sMove; rw [if_pos e1])] at this; cases this
    · by_cases e2 : y.dst.extract 0 i = x.dst
      · rw [act_k (q := x.path) (by unfold sMove; rw [if_neg e1, if_pos e2])] at this
        cases hk : M.vw.k x.path with
        | none => rw [hk] at this; cases this
        | some k =>
          rw [hk] at this a2
          cases k with
          | dir m => cases a2
          | file m d => cases this
      · rw [act_k (m1 _ e1 e2)] at this; exact this
  refine ⟨done_of rfl (firstE_all (fun h => by cases h) p1 (fun _ => p3 (by rw [hy]; rfl)) (fun h => by cases h)) (fun h => by cases h) ((vOp_two (.inl rfl)).2 ⟨⟨a1, a2⟩, k3, k4⟩), ?_⟩
  rw [vDo_3 sd hx, vDo_3 sd hy, vDo_3 sd rfl, ← hp]
  exact move_move a4 hn hrp hqp
theorem lead3 (hx : x.op = 3) (hy : y.op = 3) (hp : x.dst = y.path) (hn : x.path = y.dst) : Leads sd [x, y] [] := two_none fun M hM h1 h2 => by
  obtain ⟨_, _, v1⟩ := did h1 (by omega)
  obtain ⟨⟨a1, a2⟩, a3, a4⟩ := (vOp_two (.inl hx)).1 v1
  rw [vDo_3 sd hx, vDo_3 sd hy, ← hp, ← hn]
  exact back_move a4 (fun e => by rw [e] at a2; cases a2)
theorem lead4 (hx : x.op = 1) (hy : y.op = 8) (hp : x.path = y.path) : Leads sd [x, y] [⟨1, x.path, ByteArray.empty, y.mode, 0, x.hp, by decide⟩] := two_one fun M hM h1 h2 => by
  obtain ⟨f1, g1, v1⟩ := did h1 (by omega)
  obtain ⟨_, p1, _, _⟩ := first0 f1
  obtain ⟨f2, _, _⟩ := did h2 (by omega)
  obtain ⟨m2, _, _, _⟩ := first0 f2
  refine ⟨done_of rfl (firstE_all (fun _ => m2 (by rw [hy]; rfl)) p1 (fun h => by cases h) (fun h => by cases h)) (fun _ => g1 (by rw [hx]; rfl)) ((vOp_new (.inl rfl)).2 ((vOp_new (.inl hx)).1 v1)), ?_⟩
  rw [vDo_1 sd hx, vDo_8 sd hy, vDo_1 sd rfl, ← hp, new_chm]
  rfl
theorem lead5 (hx : x.op = 6) (hy : y.op = 8) (hp : x.path = y.path) : Leads sd [x, y] [⟨6, x.path, ByteArray.empty, y.mode, x.ref, x.hp, by decide⟩] := two_one fun M hM h1 h2 => by
  obtain ⟨f1, g1, v1⟩ := did h1 (by omega)
  obtain ⟨_, p1, _, p4⟩ := first0 f1
  obtain ⟨f2, _, _⟩ := did h2 (by omega)
  obtain ⟨m2, _, _, _⟩ := first0 f2
  refine ⟨done_of rfl (firstE_all (fun _ => m2 (by rw [hy]; rfl)) p1 (fun h => by cases h) (fun _ => p4 hx)) (fun _ => g1 (by rw [hx]; rfl)) ((vOp_new (.inr rfl)).2 ((vOp_new (.inr hx)).1 v1)), ?_⟩
  rw [vDo_6 sd hx, vDo_8 sd hy, vDo_6 sd rfl, ← hp, new_chm]
  rfl
theorem lead6 (hx : x.op = 7) (hy : y.op = 8) (hp : x.dst = y.path) : Leads sd [x, y] [⟨7, x.path, x.dst, y.mode, 0, x.hp, x.hd⟩] := two_one fun M hM h1 h2 => by
  obtain ⟨f1, g1, v1⟩ := did h1 (by omega)
  obtain ⟨_, p1, p2, _⟩ := first0 f1
  obtain ⟨f2, _, _⟩ := did h2 (by omega)
  obtain ⟨m2, _, _, _⟩ := first0 f2
  refine ⟨done_of rfl (firstE_all (fun _ => m2 (by rw [hy]; rfl)) p1 (fun _ => p2 (by rw [hx]; rfl)) (fun h => by cases h)) (fun _ => g1 (by rw [hx]; rfl)) ((vOp_two (.inr (.inr rfl))).2 ((vOp_two (.inr (.inr hx))).1 v1)), ?_⟩
  rw [vDo_7 sd hx, vDo_8 sd hy, vDo_7 sd rfl, ← hp, new_chm]
  rfl
theorem lead7 (hx : x.op = 8) (hy : y.op = 8) (hp : x.path = y.path) : Leads sd [x, y] [⟨8, x.path, ByteArray.empty, y.mode, 0, x.hp, by decide⟩] := two_one fun M hM h1 h2 => by
  obtain ⟨f1, _, v1⟩ := did h1 (by omega)
  obtain ⟨_, p1, _, _⟩ := first0 f1
  obtain ⟨f2, _, _⟩ := did h2 (by omega)
  obtain ⟨m2, _, _, _⟩ := first0 f2
  refine ⟨done_of rfl (firstE_all (fun _ => m2 (by rw [hy]; rfl)) p1 (fun h => by cases h) (fun h => by cases h)) (fun h => by cases h) ((vOp_chm rfl).2 ((vOp_chm hx).1 v1)), ?_⟩
  rw [vDo_8 sd hx, vDo_8 sd hy, vDo_8 sd rfl, ← hp, chm_chm]
theorem lead8 (hx : x.op = 1) (hy : y.op = 2) (hp : x.path = y.path) : Leads sd [x, y] [] := two_none fun M hM h1 h2 => by
  have v1 := (vOp_new (.inl hx)).1 (did h1 (by omega)).2.2
  rw [vDo_1 sd hx, vDo_25 sd (.inl hy), ← hp]
  exact back_del v1.2 fun r hr => by unfold sNew; rw [if_neg hr]
theorem lead9 (hx : x.op = 6) (hy : y.op = 5) (hp : x.path = y.path) : Leads sd [x, y] [] := two_none fun M hM h1 h2 => by
  have v1 := (vOp_new (.inr hx)).1 (did h1 (by omega)).2.2
  rw [vDo_6 sd hx, vDo_25 sd (.inr hy), ← hp]
  exact back_del v1.2 fun r hr => by unfold sNew; rw [if_neg hr]
theorem lead10 (hx : x.op = 7) (hy : y.op = 5) (hp : x.dst = y.path) : Leads sd [x, y] [] := two_none fun M hM h1 h2 => by
  have v1 := (vOp_two (.inr (.inr hx))).1 (did h1 (by omega)).2.2
  rw [vDo_7 sd hx, vDo_25 sd (.inr hy), ← hp]
  exact back_del v1.2.2 fun r hr => by unfold sNew; rw [if_neg hr]
theorem lead11 (hx : x.op = 4) (hy : y.op = 5) (hp : x.dst = y.path) : Leads sd [x, y] [] := two_none fun M hM h1 h2 => by
  have v1 := (vOp_two (.inr (.inl hx))).1 (did h1 (by omega)).2.2
  rw [vDo_4 sd hx, vDo_25 sd (.inr hy), ← hp]
  exact back_del v1.2.2 fun r hr => by unfold sLink; rw [if_neg hr]
/-- What a rule hands back. -/
def Told (sd : List ByteArray) (cs : List Cmd) (z : List Ins) : Prop := ∃ zs : List Cmd, z = zs.map Cmd.ins ∧ Leads sd cs zs ∧ ∀ c ∈ zs, OpOk c
theorem fusedF_P {a b : Ins} {set : Int} {z : List Ins} {P : List Ins → Prop} : ∀ (R : List (Int × (Ins → Ins → Option (List Ins)))), (∀ q ∈ R, ∀ z, q.2 a b = some z → P z) → fusedF a b set R = some z → P z
  | [], _, h => by cases h
  | (s, r) :: t, hR, h => by
    rw [fusedF] at h
    split at h
    · exact fusedF_P t (fun q hq => hR q (List.mem_cons_of_mem _ hq)) h
    · split at h
      · rename_i l' hl
        injection h with h; subst h
        exact hR (s, r) (List.mem_cons_self ..) _ hl
      · exact fusedF_P t (fun q hq => hR q (List.mem_cons_of_mem _ hq)) h
theorem told_one {z : Cmd} (h : Leads sd [x, y] [z]) (ho : 1 ≤ z.op ∧ z.op ≤ 9) : Told sd [x, y] [z.ins] := ⟨[z], rfl, h, fun c hc => by obtain rfl := List.mem_singleton.1 hc; unfold OpOk; omega⟩
theorem told_none (h : Leads sd [x, y] []) : Told sd [x, y] [] := ⟨[], rfl, h, fun c hc => nomatch hc⟩
theorem fuse_leads {set : Int} {z : List Ins} (h : fuse x.ins y.ins set = some z) : Told sd [x, y] z := by
  refine fusedF_P rulesL ?_ h
  clear h
  intro q hq z hz
  simp only [rulesL, List.mem_cons, List.not_mem_nil, or_false] at hq
  rcases hq with rfl | rfl | rfl | rfl | rfl | rfl | rfl | rfl | rfl | rfl | rfl <;>
    (simp only [rule1, rule2, rule3, rule4, rule5, rule6, rule7, rule8, rule9, rule10, rule11] at hz
     split at hz
     rotate_left
     · cases hz
     rename_i hc
     injection hz with hz
     subst hz)
  · exact told_one (lead1 hc.1 hc.2.1 hc.2.2) (by simp)
  · exact told_one (lead2 hc.1 hc.2.1 hc.2.2.1 hc.2.2.2) (by simp)
  · exact told_none (lead3 hc.1 hc.2.1 hc.2.2.1 hc.2.2.2)
  · exact told_one (lead4 hc.1 hc.2.1 hc.2.2) (by simp)
  · exact told_one (lead5 hc.1 hc.2.1 hc.2.2) (by simp)
  · exact told_one (lead6 hc.1 hc.2.1 hc.2.2) (by simp)
  · exact told_one (lead7 hc.1 hc.2.1 hc.2.2) (by simp)
  · exact told_none (lead8 hc.1 hc.2.1 hc.2.2)
  · exact told_none (lead9 hc.1 hc.2.1 hc.2.2)
  · exact told_none (lead10 hc.1 hc.2.1 hc.2.2)
  · exact told_none (lead11 hc.1 hc.2.1 hc.2.2)
theorem look_leads (set : Int) (cs : List Cmd) (hco : ∀ c ∈ cs, OpOk c) : Told sd cs (lookC set (cs.map Cmd.ins) 0) := by
  obtain ⟨l', p', h1, _, h2⟩ := look_inv (set := set) (fun l _ => Told sd cs l) (fun l p x y h _ _ _ => h) (fun l p x y z h hx hy hf => by
    obtain ⟨ds, rfl, hl, ho⟩ := h
    rw [List.getElem?_map] at hx hy
    cases ex : ds[p]? with
    | none => rw [ex] at hx; cases hx
    | some a =>
      cases ey : ds[p + 1]? with
      | none => rw [ey] at hy; cases hy
      | some b =>
        rw [ex] at hx
        rw [ey] at hy
        injection hx with hx
        injection hy with hy
        subst hx hy
        obtain ⟨zs, rfl, hz, hzo⟩ := fuse_leads (sd := sd) hf
        refine ⟨ds.take p ++ zs ++ ds.drop (p + 2), by simp [List.map_take, List.map_drop], ?_, fun c hc => ?_⟩
        · have e : ds = ds.take p ++ [a, b] ++ ds.drop (p + 2) := by
            obtain ⟨l1, e1⟩ := List.getElem?_eq_some_iff.1 ex
            obtain ⟨l2, e2⟩ := List.getElem?_eq_some_iff.1 ey
            have d1 : ds.drop p = a :: b :: ds.drop (p + 2) := by
              rw [List.drop_eq_getElem_cons l1, e1, List.drop_eq_getElem_cons l2, e2]
            rw [List.append_assoc]
            have := (List.take_append_drop p ds).symm
            rw [d1] at this
            exact this
          refine hl.trans ?_
          have hh := Leads.app (Leads.app (Leads.refl sd (ds.take p)) hz) (Leads.refl sd (ds.drop (p + 2)))
          rw [← e] at hh
          exact hh
        · rcases List.mem_append.1 hc with hc | hc
          · rcases List.mem_append.1 hc with hc | hc
            · exact ho c (List.mem_of_mem_take hc)
            · exact hzo c hc
          · exact ho c (List.mem_of_mem_drop hc)) _ (cs.map Cmd.ins) 0 (Nat.le_refl _) ⟨cs, rfl, Leads.refl sd cs, hco⟩
  rw [h2]
  exact h1
def syncCmd : Cmd := ⟨9, ByteArray.empty, ByteArray.empty, 0, 0, by decide, by decide⟩
/-- What Run makes of a list plays like the list. -/
theorem peep_leads (set : Int) (cs : List Cmd) (hco : ∀ c ∈ cs, OpOk c) : Told sd cs (peepF set (cs.map Cmd.ins)) := by
  rw [peep_eq]
  by_cases hf : few set = true
  · rw [if_pos hf]
    have e : filt set (cs.map Cmd.ins) = (cs.filter fun c => keepSync set c.ins).map Cmd.ins := by
      unfold filt
      rw [List.filter_map]
      rfl
    rw [e]
    have h1 : Leads sd cs (cs.filter fun c => keepSync set c.ins) := filter_leads _ (fun c h => by
      unfold keepSync at h
      simp only [Bool.or_eq_false_iff, bne_eq_false_iff_eq] at h
      exact h.1) cs
    obtain ⟨zs, h2, h3, h4⟩ := look_leads (sd := sd) set (cs.filter fun c => keepSync set c.ins) (fun c hc => hco c (List.mem_filter.1 hc).1)
    rw [h2]
    by_cases hz : zs.map Cmd.ins = []
    · rw [if_pos hz]
      have : zs = [] := List.map_eq_nil_iff.1 hz
      subst this
      exact ⟨[], rfl, h1.trans h3, fun c hc => nomatch hc⟩
    · rw [if_neg hz]
      refine ⟨zs ++ [syncCmd], by rw [List.map_append]; rfl, (h1.trans h3).trans ?_, fun c hc => ?_⟩
      · have := Leads.app (Leads.refl sd zs) (none_sync (sd := sd) (c := syncCmd) rfl)
        rw [List.append_nil] at this
        exact this
      · rcases List.mem_append.1 hc with hc | hc
        · exact h4 c hc
        · obtain rfl := List.mem_singleton.1 hc; unfold OpOk syncCmd; exact ⟨by decide, by decide⟩
  · rw [if_neg hf]
    exact look_leads set cs hco
end Go.Proofs.Ytanaccoelifcpaa
