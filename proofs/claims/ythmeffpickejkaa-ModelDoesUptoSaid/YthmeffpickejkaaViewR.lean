/- Lists of instructions and looks; model.Run of any tree, as one answer. -/
import Derived.Test.YthmeffpickejkaaView
import Derived.Test.YthmeffpickejkaaRun7
import Derived.Test.YthmeffpickejkaaOpenC
namespace Go.Proofs.Ythmeffpickejkaa
open Go.RowKit

/-- A world that holds to what a world holds to, and is not too great. -/
structure WOkP (M : PW) : Prop where
  inv : M.Inv
  len : M.nodes.length ≤ 256
theorem WOkP.do {M : PW} (h : WOkP M) (c : Cmd) (sd : List ByteArray) : WOkP (doM M c sd) := ⟨(inv_do h.inv h.len c sd).1, (inv_do h.inv h.len c sd).2.1⟩
theorem WOkP.run (sd : List ByteArray) : ∀ (cs : List Cmd) {M : PW} (_ : WOkP M) (k : Nat), WOkP (runG sd cs M k).1
  | [], M, h, k => h
  | c :: cs, M, h, k => by
    rw [runG]
    split
    · exact WOkP.run sd cs (h.do c sd) (k + 1)
    · exact h
theorem SameV.do {M N : PW} (h : SameV M N) (hM : WOkP M) (hN : WOkP N) (c : Cmd) (sd : List ByteArray) : SameV (Go.Proofs.Ythmeffpickejkaa.doM M c sd) (Go.Proofs.Ythmeffpickejkaa.doM N c sd) := h.doM hM.inv hN.inv hM.len c sd
theorem SameV.run (sd : List ByteArray) : ∀ (cs : List Cmd) {M N : PW} (_ : SameV M N) (_ : WOkP M) (_ : WOkP N) (k : Nat), SameV (runG sd cs M k).1 (runG sd cs N k).1 ∧ (runG sd cs M k).2 = (runG sd cs N k).2
  | [], M, N, h, _, _, k => ⟨h, rfl⟩
  | c :: cs, M, N, h, hM, hN, k => by
    have e := h.doE hM.inv hN.inv c sd
    rw [runG, runG, e]
    split
    · exact SameV.run sd cs (h.do hM hN c sd) (hM.do c sd) (hN.do c sd) (k + 1)
    · exact ⟨h, rfl⟩
theorem runG_shift (sd : List ByteArray) (j : Nat) : ∀ (cs : List Cmd) (M : PW) (k : Nat), runG sd cs M (k + j) = ((runG sd cs M k).1, (runG sd cs M k).2.1 + j, (runG sd cs M k).2.2)
  | [], M, k => rfl
  | c :: cs, M, k => by
    rw [runG, runG]
    split
    · rw [show k + j + 1 = k + 1 + j by omega, runG_shift sd j cs]
    · rfl
theorem runG_app (sd : List ByteArray) (b : List Cmd) : ∀ (a : List Cmd) (M : PW) (k : Nat), runG sd (a ++ b) M k = if (runG sd a M k).2.2 = 0 then runG sd b (runG sd a M k).1 (runG sd a M k).2.1 else runG sd a M k
  | [], M, k => by rw [List.nil_append, runG, if_pos rfl]
  | c :: a, M, k => by
    rw [List.cons_append, runG, runG]
    split
    · exact runG_app sd b a _ _
    · rfl
theorem runG_all (sd : List ByteArray) : ∀ (a : List Cmd) (M : PW) (k : Nat), (runG sd a M k).2.2 = 0 → (runG sd a M k).2.1 = k + a.length
  | [], M, k, _ => rfl
  | c :: a, M, k, h => by
    rw [runG] at h ⊢
    split
    · rename_i h0
      rw [if_pos h0] at h
      rw [runG_all sd a _ _ h, List.length_cons]; omega
    · rename_i h0
      rw [if_neg h0] at h
      exact absurd h h0
theorem runG_le (sd : List ByteArray) : ∀ (a : List Cmd) (M : PW) (k : Nat), (runG sd a M k).2.1 ≤ k + a.length
  | [], M, k => Nat.le_refl _
  | c :: a, M, k => by
    rw [runG]
    split
    · have := runG_le sd a (doM M c sd) (k + 1)
      rw [List.length_cons]; omega
    · simp only [List.length_cons]; omega
/-- What Run says of any tree. -/
def runR (t : TV) (ds : List ByteArray) (cs : List Cmd) (sd : List ByteArray) : PW × Nat × Int := if looseE t = 0 then runG sd cs (openM t ds) 0 else (openM zeroTV [], 0, looseE t)
/-- A tree that a world was told as, somewhere. -/
def TellsM (M : PW) (u : TV) (es : List ByteArray) : Prop := ∃ b w S, ToldAs M b w S u ∧ es = dsOf M S
theorem zero_told (b : Nat) (w : World) : ToldAs (openM zeroTV []) b w [] zeroTV :=
  ⟨List.Perm.refl _, List.Pairwise.nil, rfl, rfl, rfl, rfl, rfl, ⟨rfl, .inl ⟨rfl, rfl⟩⟩, ⟨rfl, .inl ⟨rfl, rfl⟩⟩, FRows.nil _ _ _⟩
theorem zero_ok : WOkP (openM zeroTV []) := ⟨inv_open (good_of_loose (by kernel_rfl)) rfl rfl (fun k x d h _ => (by simp [zeroTV] at h)), by show ([] : List Node).length ≤ 256; decide⟩
theorem open_ok {t : TV} {ds : List ByteArray} {w : World} (h : TreeD w t ds) (hl : looseE t = 0) : WOkP (openM t ds) := by
  have hG := good_of_loose hl
  refine ⟨inv_open hG h.tree.fl h.dat.len fun k x d hx hd => ?_, ?_⟩
  · obtain ⟨d', hd', e, _⟩ := h.dat.get hx
    rw [hd] at hd'; injection hd' with hd'; rw [hd', e]
  · show t.nodes.length ≤ 256
    rw [h.tree.nl]; exact hG.nn
theorem runR_ok {t : TV} {ds : List ByteArray} {w : World} (h : TreeD w t ds) (cs : List Cmd) (sd : List ByteArray) : WOkP (runR t ds cs sd).1 := by
  unfold runR
  split
  · rename_i hl; exact WOkP.run sd cs (open_ok h hl) 0
  · exact zero_ok
theorem told_exactB {M N : PW} (hM : WOkP M) (hN : WOkP N) (hV : SameV M N) {u v : TV} {es fs : List ByteArray} (h : TellsM M u es) (k : TellsM N v fs) : exactB u v es fs = true := by
  obtain ⟨_, _, _, h, rfl⟩ := h
  obtain ⟨_, _, _, k, rfl⟩ := k
  exact told_exact hM.inv hN.inv hM.len hN.len hV h k
theorem told_opened {M : PW} (hM : WOkP M) {u : TV} {es : List ByteArray} (h : TellsM M u es) : looseE u = 0 ∧ SameV (openM u es) M := by
  obtain ⟨_, _, _, h, rfl⟩ := h
  exact ⟨loose_of_P (told_loose hM.inv hM.len h), told_open hM.inv hM.len h⟩
theorem ToldAs.tells {M : PW} {b : Nat} {w : World} {S : List Node} {u : TV} (h : ToldAs M b w S u) : TellsM M u (dsOf M S) := ⟨_, _, S, h, rfl⟩
theorem Run_any (t : TV) (ds : List ByteArray) (cs : List Cmd) (hco : ∀ c ∈ cs, OpOk c) (A : Option Addr) (n cap : Nat) (SA : Option Addr) (sn sc : Nat) (ss : List SC) (sd : List ByteArray) (w : World) (h : TreeD w t ds) (hA : Sl w w.heap.size 5 A n (cs.flatMap Cmd.list)) (hn : cs.length = n) (hn4 : n ≤ 4096) (hS : StockAt w SA sn ss sd) :
    Calls Try.prog 34 #[t.val, .slice A n cap, .slice SA sn sc] w fun e w' => ∃ u S, e = .returned (.tuple #[u.val, .int .i64 (runR t ds cs sd).2.1, .int .i64 (runR t ds cs sd).2.2]) ∧ ToldAs (runR t ds cs sd).1 w.heap.size w' S u ∧ Below w.heap.size w w' := by
  by_cases hl : looseE t = 0
  · have e : runR t ds cs sd = runG sd cs (openM t ds) 0 := by unfold runR; rw [if_pos hl]
    rw [e]
    refine (run_any t ds cs hco A n cap SA sn sc ss sd w h hl hA hn hn4 hS).mono ?_
    rintro e w' ⟨u, he, ⟨S, hS⟩, hb⟩
    exact ⟨u, S, he, hS, hb⟩
  · have e : runR t ds cs sd = (openM zeroTV [], 0, looseE t) := by unfold runR; rw [if_neg hl]
    rw [e]
    refine (run_no (looseE t) t A n cap SA sn sc w fun W hW => all_no t A n cap SA sn sc _ W (h.tree.keep hW) hl).mono ?_
    rintro e w' ⟨he, hb⟩
    exact ⟨zeroTV, [], he, zero_told _ _, hb⟩
/-- What stands behind a call whose tree is kept in a block of its own. -/
def TreeCut (M : PW) (w : World) (p : Value) (wx : World) : Prop :=
  ∃ u es g, p = .pointer (some ⟨g, 0, none⟩) ∧ Blk wx g 25 #[.slice u.NA u.nn u.nc, .slice u.FA u.fn u.fc] ∧ w.heap.size ≤ g ∧ TreeD wx u es ∧ TellsM M u es ∧ Below w.heap.size w wx
theorem TreeCut.alloc {M : PW} {w w5 : World} {b : Nat} {S : List Node} {u : TV} (h : ToldAs M b w5 S u) (hb : Below w.heap.size w w5) : TreeCut M w (.pointer (some ⟨w5.heap.size, 0, none⟩)) (w5.alloc (.cells #[.slice u.NA u.nn u.nc, .slice u.FA u.fn u.fc] 25)) :=
  ⟨u, _, _, rfl, Blk.new _ _ _, hb.size, h.tree.keep ((Below.refl w5.heap.size w5).alloc (Nat.le_refl _) _), h.tells, hb.alloc hb.size _⟩
theorem TreeCut.store {M : PW} {w w5 w6 : World} {b g : Nat} {S : List Node} {u : TV} {cs : Array Value} (h : ToldAs M b w5 S u) (hb : Below w.heap.size w w5) (hZ : Blk w5 g 25 cs) (hB : Blk w6 g 25 #[.slice u.NA u.nn u.nc, .slice u.FA u.fn u.fc]) (hg : w5.grownBy w6 (some g)) (hw : w.heap.size ≤ g) : TreeCut M w (.pointer (some ⟨g, 0, none⟩)) w6 :=
  ⟨u, _, g, rfl, hB, hw, (h.store hZ hg).tree, (h.store hZ hg).tells, hb.trans (below_grown hg hb.size (fun g' e => by injection e with e; omega))⟩
/-- A slice from an element on. -/
theorem Sl.rest {w : World} {B sz n c : Nat} {A : Option Addr} {L : List Value} (h : Sl w B sz A n L) {k : Nat} (hk : k ≤ n) (hnc : n ≤ c) : Sl w B sz (if c = k then A else A.map (fun a => a.add (k * sz))) (n - k) (L.drop (k * sz)) := by
  refine ⟨by rw [List.length_drop, h.1, Nat.sub_mul], fun h0 => ?_⟩
  obtain ⟨b, o, rfl, hb, hr⟩ := h.2 (by omega)
  rw [if_neg (by omega)]
  exact ⟨b, o + k * sz, by simp [add_at], hb, hr.drop _⟩
/-- Run of a list, and of its two parts. -/
theorem runR_split {t : TV} {ds : List ByteArray} {w : World} (h : TreeD w t ds) (cs : List Cmd) (sd : List ByteArray) (k : Nat) (hk : k ≤ cs.length) :
    ((runR t ds (cs.take k) sd).2.2 ≠ 0 → runR t ds cs sd = runR t ds (cs.take k) sd) ∧
    ((runR t ds (cs.take k) sd).2.2 = 0 → ∀ u es, TellsM (runR t ds (cs.take k) sd).1 u es → (runR t ds cs sd).2.2 = (runR u es (cs.drop k) sd).2.2 ∧ (runR t ds cs sd).2.1 = k + (runR u es (cs.drop k) sd).2.1 ∧ ∀ w', TreeD w' u es → SameV (runR t ds cs sd).1 (runR u es (cs.drop k) sd).1) := by
  by_cases hl : looseE t = 0
  · have e : ∀ cs, runR t ds cs sd = runG sd cs (openM t ds) 0 := fun cs => by unfold runR; rw [if_pos hl]
    have ha := runG_app sd (cs.drop k) (cs.take k) (openM t ds) 0
    rw [List.take_append_drop] at ha
    rw [e, e]
    refine ⟨fun h0 => by rw [ha, if_neg h0], fun h0 u es hu => ?_⟩
    have hall := runG_all sd (cs.take k) (openM t ds) 0 h0
    rw [List.length_take, Nat.min_eq_left hk, Nat.zero_add] at hall
    have hok := WOkP.run sd (cs.take k) (open_ok h hl) 0
    obtain ⟨hlu, hV⟩ := told_opened hok hu
    have eu : runR u es (cs.drop k) sd = runG sd (cs.drop k) (openM u es) 0 := by unfold runR; rw [if_pos hlu]
    rw [eu, ha, if_pos h0, hall]
    have hs := runG_shift sd k (cs.drop k) (runG sd (cs.take k) (openM t ds) 0).1 0
    rw [Nat.zero_add] at hs
    rw [hs]
    have key : ∀ w', TreeD w' u es → SameV (runG sd (cs.drop k) (runG sd (cs.take k) (openM t ds) 0).1 0).1 (runG sd (cs.drop k) (openM u es) 0).1 ∧ (runG sd (cs.drop k) (runG sd (cs.take k) (openM t ds) 0).1 0).2 = (runG sd (cs.drop k) (openM u es) 0).2 := fun w' hw => hV.symm.run sd (cs.drop k) hok (open_ok hw hlu) 0
    obtain ⟨b, w2, S, hT, rfl⟩ := hu
    have k2 := (key w2 hT.tree).2
    refine ⟨by show (runG sd (cs.drop k) (runG sd (cs.take k) (openM t ds) 0).1 0).2.2 = _; rw [k2], ?_, fun w' hw => (key w' hw).1⟩
    show (runG sd (cs.drop k) (runG sd (cs.take k) (openM t ds) 0).1 0).2.1 + k = _
    rw [k2]; omega
  · have e : ∀ cs, runR t ds cs sd = (openM zeroTV [], 0, looseE t) := fun cs => by unfold runR; rw [if_neg hl]
    rw [e, e]
    exact ⟨fun _ => rfl, fun h0 => absurd h0 hl⟩

/-- What Do says and makes of any tree. -/
def doW (t : TV) (ds : List ByteArray) (c : Cmd) (sd : List ByteArray) : PW := if DoE t ds c sd = 0 then doM (openM t ds) c sd else openM zeroTV []
theorem Do_told (t : TV) (ds : List ByteArray) (c : Cmd) (ho : OpOk c) (SA : Option Addr) (sn sc : Nat) (ss : List SC) (sd : List ByteArray) (w : World) (h : TreeD w t ds) (hS : StockAt w SA sn ss sd) :
    Calls Try.prog 18 #[t.val, .agg c.cells, .slice SA sn sc] w fun e w' => ∃ u S, e = .returned (.tuple #[u.val, .int .i64 (DoE t ds c sd)]) ∧ ToldAs (doW t ds c sd) w.heap.size w' S u ∧ Below w.heap.size w w' := by
  refine (Do_any t ds c ho SA sn sc ss sd w h hS).mono ?_
  rintro e w' ⟨u, he, h0, h1, hb⟩
  by_cases hE : DoE t ds c sd = 0
  · obtain ⟨S, hS⟩ := h1 hE
    exact ⟨u, S, he, by unfold doW; rw [if_pos hE]; exact hS, hb⟩
  · obtain rfl := h0 hE
    exact ⟨zeroTV, [], he, by unfold doW; rw [if_neg hE]; exact zero_told _ _, hb⟩
theorem doE_loose {t : TV} {ds : List ByteArray} {c : Cmd} {sd : List ByteArray} (h : DoE t ds c sd = 0) : looseE t = 0 ∧ doE (openM t ds) c sd = 0 := by
  unfold DoE at h
  split at h
  · rename_i hl; exact ⟨hl, h⟩
  · rename_i hl; exact absurd h hl
theorem doW_ok {t : TV} {ds : List ByteArray} {w : World} (h : TreeD w t ds) (c : Cmd) (sd : List ByteArray) : WOkP (doW t ds c sd) := by
  unfold doW
  split
  · rename_i hE; exact (open_ok h (doE_loose hE).1).do c sd
  · exact zero_ok
/-- A told tree and the tree whose world looks so. -/
theorem told_back {N : PW} (hN : WOkP N) {t : TV} {ds : List ByteArray} {w : World} (h : TreeD w t ds) (hl : looseE t = 0) (hV : SameV N (openM t ds)) {v : TV} {fs : List ByteArray} (k : TellsM N v fs) : exactB v t fs ds = true := by
  obtain ⟨b, w2, S, k, rfl⟩ := k
  have hL := looseP_of hl
  exact exact_of_view (told_loose hN.inv hN.len k) hL k.fl h.tree.fl (by rw [dsOf, List.length_map, k.fl, k.fn]) h.dat.len (fun p => (told_kind hN.inv k p).trans ((hV.kind p).trans (open_kind hL.good p))) (fun p q => (told_sameL k p q).trans (hV.same p q))
theorem told_other {N : PW} (hN : WOkP N) {t : TV} {ds : List ByteArray} {p : ByteArray} (h0 : (openM t ds).vw.k p = none) (h1 : N.vw.k p ≠ none) {u : TV} {es : List ByteArray} (k : TellsM N u es) : exactB u t es ds = false := by
  cases hx : exactB u t es ds with
  | false => rfl
  | true =>
    obtain ⟨b, w2, S, k, rfl⟩ := k
    have e : u.nodes = t.nodes := by
      unfold exactB at hx
      simp only [Bool.and_eq_true, decide_eq_true_eq] at hx
      exact hx.1
    have hk := told_kind hN.inv k p
    have hn : nodeAt t.nodes p = none := none_at (M := openM t ds) h0
    rw [← e] at hn
    have : kindL u.nodes (treeF u (dsOf N S)) p = none := kind_none.2 hn
    exact absurd (hk.symm.trans this) h1

theorem firstE_ok {T : Bool} {c : Cmd} {ds : List ByteArray} (h6 : c.op ≠ 6) (hp : validL c.path.data.toList = true) (hd : T = true → validL c.dst.data.toList = true) : firstE T false c ds = 0 := by
  unfold firstE
  rw [if_neg (by simp), if_neg, if_neg, if_neg h6]
  · rintro (h | ⟨h1, h2⟩)
    · rw [hp] at h; cases h
    · rw [hd h1] at h2; cases h2
  · rintro (h | ⟨h1, h2⟩)
    · exact valid_ne hp h
    · exact valid_ne (hd h1) h2
/-- Prefixes that are directories stay so where a file or nothing was turned. -/
theorem OkUp.act {V : Vw} {p : ByteArray} (h : OkUp V p) {σ : ByteArray → Src} (hσ : ∀ r, isD (V.k r) = true → σ r = .old r) : OkUp (V.act σ) p := fun i hi h3 => by
  have := h i hi h3
  show isD (match σ (p.extract 0 i) with | .old r => V.k r | .gone => none | .fresh k _ => some k) = true
  rw [hσ _ this]
  exact this
theorem act_k {V : Vw} {σ : ByteArray → Src} {r q : ByteArray} (h : σ r = .old q) : (V.act σ).k r = V.k q := by simp only [Vw.act, h]
theorem act_fresh {V : Vw} {σ : ByteArray → Src} {r : ByteArray} {k : Kd} {f : Bool} (h : σ r = .fresh k f) : (V.act σ).k r = some k := by simp only [Vw.act, h]
theorem act_gone {V : Vw} {σ : ByteArray → Src} {r : ByteArray} (h : σ r = .gone) : (V.act σ).k r = none := by simp only [Vw.act, h]
theorem sB_none {l : List Node} {F : Int → Int × ByteArray} {p : ByteArray} (h : kindL l F p = none) (q : ByteArray) : sB l p q = false ∧ sB l q p = false := by
  have hn := kind_none.1 h
  unfold sB
  rw [hn]
  refine ⟨rfl, ?_⟩
  split
  · rename_i h1 h2; cases h2
  · rfl
/-- A look from which p, which was not there, is taken away again. -/
theorem back_del {M : PW} {p : ByteArray} (h : M.vw.k p = none) {σ : ByteArray → Src} (hσ : ∀ r, r ≠ p → σ r = .old r) : (M.vw.act σ).act (sDel p) = M.vw := by
  have hs := fun q => sB_none (show kindL M.nodes M.F p = none from h) q
  refine Vw.ext2 (fun q => ?_) (fun a b => ?_)
  · by_cases e : q = p
    · rw [act_gone (by unfold sDel; rw [if_pos e]), e, h]
    · rw [act_k (by unfold sDel; rw [if_neg e]), act_k (hσ q e)]
  · show (match sDel p a, sDel p b with
      | .old r, .old t => (M.vw.act σ).s r t
      | .fresh _ f, .fresh _ _ => f && decide (a = b)
      | _, _ => false) = sB M.nodes a b
    unfold sDel
    by_cases ca : a = p
    · rw [if_pos ca, ca, (hs b).1]
    · by_cases cb : b = p
      · rw [if_pos cb, if_neg ca, cb, (hs a).2]
      · rw [if_neg ca, if_neg cb]
        show (match σ a, σ b with
          | .old r, .old t => M.vw.s r t
          | .fresh _ f, .fresh _ _ => f && decide (a = b)
          | _, _ => false) = sB M.nodes a b
        rw [hσ a ca, hσ b cb]
        rfl
theorem back_move {M : PW} {p q : ByteArray} (h : M.vw.k p = none) (hq : M.vw.k q ≠ none) : (M.vw.act (sMove q p)).act (sMove p q) = M.vw := by
  have hs := fun q => sB_none (show kindL M.nodes M.F p = none from h) q
  have hne : ¬ q = p := fun e => hq (by rw [e]; exact h)
  have hne' : ¬ p = q := fun e => hne e.symm
  have m1 : ∀ a, a = p → sMove p q a = .gone := fun a e => by unfold sMove; rw [if_pos e]
  have m2 : ∀ a, a = q → sMove p q a = .old p := fun a e => by unfold sMove; rw [if_neg (by rw [e]; exact hne), if_pos e]
  have m3 : ∀ a, ¬ a = p → ¬ a = q → sMove p q a = .old a := fun a e f => by unfold sMove; rw [if_neg e, if_neg f]
  have n1 : sMove q p p = .old q := by unfold sMove; rw [if_neg hne', if_pos rfl]
  have n3 : ∀ a, ¬ a = p → ¬ a = q → sMove q p a = .old a := fun a e f => by unfold sMove; rw [if_neg f, if_neg e]
  refine Vw.ext2 (fun a => ?_) (fun a b => ?_)
  · by_cases e : a = p
    · rw [act_gone (m1 a e), e, h]
    · by_cases f : a = q
      · rw [act_k (m2 a f), act_k n1, f]
      · rw [act_k (m3 a e f), act_k (n3 a e f)]
  · show (match sMove p q a, sMove p q b with
      | .old r, .old t => (M.vw.act (sMove q p)).s r t
      | .fresh _ f, .fresh _ _ => f && decide (a = b)
      | _, _ => false) = sB M.nodes a b
    have inner : ∀ r t x y : ByteArray, sMove q p r = .old x → sMove q p t = .old y → (M.vw.act (sMove q p)).s r t = sB M.nodes x y := fun r t x y h1 h2 => by
      show (match sMove q p r, sMove q p t with
        | .old r, .old t => M.vw.s r t
        | .fresh _ f, .fresh _ _ => f && decide (r = t)
        | _, _ => false) = _
      rw [h1, h2]; rfl
    by_cases ca : a = p
    · rw [m1 a ca, ca, (hs b).1]
    · by_cases cb : b = p
      · rw [m1 b cb, cb, (hs a).2]
        by_cases fa : a = q
        · rw [m2 a fa]
        · rw [m3 a ca fa]
      · by_cases fa : a = q <;> by_cases fb : b = q
        · rw [m2 a fa, m2 b fb, fa, fb]; exact inner _ _ _ _ n1 n1
        · rw [m2 a fa, m3 b cb fb, fa]; exact inner _ _ _ _ n1 (n3 b cb fb)
        · rw [m3 a ca fa, m2 b fb, fb]; exact inner _ _ _ _ (n3 a ca fa) n1
        · rw [m3 a ca fa, m3 b cb fb]; exact inner _ _ _ _ (n3 a ca fa) (n3 b cb fb)

/-- The pairs of ModelUndo. -/
def undoP (p q : ByteArray) (mode : Int) (hp : p.size ≤ 9223372036854775807) (hq : q.size ≤ 9223372036854775807) : List (Cmd × Cmd) :=
  [(⟨1, p, ByteArray.empty, mode, 0, hp, by decide⟩, ⟨2, p, ByteArray.empty, 0, 0, hp, by decide⟩),
   (⟨4, q, p, 0, 0, hq, hp⟩, ⟨5, p, ByteArray.empty, 0, 0, hp, by decide⟩),
   (⟨3, q, p, 0, 0, hq, hp⟩, ⟨3, p, q, 0, 0, hp, hq⟩),
   (⟨6, p, ByteArray.empty, mode, 0, hp, by decide⟩, ⟨5, p, ByteArray.empty, 0, 0, hp, by decide⟩),
   (⟨7, q, p, mode, 0, hq, hp⟩, ⟨5, p, ByteArray.empty, 0, 0, hp, by decide⟩)]
theorem undo_do {M : PW} (hM : WOkP M) {p q : ByteArray} {mode : Int} {hp : p.size ≤ 9223372036854775807} {hq : q.size ≤ 9223372036854775807} {sd : List ByteArray} {x : Cmd × Cmd} (hx : x ∈ undoP p q mode hp hq) (h : doE M x.1 sd = 0) :
    M.vw.k p = none ∧ (doM M x.1 sd).vw.k p ≠ none ∧ doE (doM M x.1 sd) x.2 sd = 0 ∧ (doM (doM M x.1 sd) x.2 sd).vw = M.vw := by
  have hvw := vw_do hM.inv h
  have hN := hM.do x.1 sd
  have h' := ((do0_iff M x.1 sd).1 h).2
  have fin : ∀ (y : Cmd), x.2 = y → y.op = 2 ∨ y.op = 5 ∨ y.op = 3 → validL y.path.data.toList = true → (y.op = 3 → validL y.dst.data.toList = true) → vOp (doM M x.1 sd).vw y → doE (doM M x.1 sd) x.2 sd = 0 := fun y e ho v1 v2 hv => by
    rw [e]
    refine (do0_iff _ _ _).2 ⟨by simp [isOp]; omega, .inr ⟨?_, fun hg => ?_, hv⟩⟩
    · have hm : modeB y.op = false := by simp [modeB]; omega
      rw [hm]
      exact firstE_ok (by omega) v1 fun ht => v2 (by simp [toB] at ht; omega)
    · simp [growB] at hg; omega
  simp only [undoP, List.mem_cons, List.not_mem_nil, or_false] at hx
  rcases hx with rfl | rfl | rfl | rfl | rfl
  · obtain ⟨f1, _, hv⟩ := h'.resolve_left (by simp)
    obtain ⟨_, v1, v2, _⟩ := first0 f1
    unfold vOp at hv
    rw [if_pos (.inl rfl)] at hv
    obtain ⟨k1, k2⟩ := hv
    simp only at k1 k2 v1
    unfold vDo sigC at hvw
    rw [if_neg (by simp), if_pos rfl] at hvw
    have hp1 : (M.vw.act (sNew p (.dir mode) false)).k p = some (.dir mode) := act_fresh (f := false) (by unfold sNew; rw [if_pos rfl])
    have hd : doE (doM M ⟨1, p, ByteArray.empty, mode, 0, hp, by decide⟩ sd) ⟨2, p, ByteArray.empty, 0, 0, hp, by decide⟩ sd = 0 := by
      refine fin _ rfl (.inl rfl) v1 (fun e => absurd e (by simp)) ?_
      unfold vOp
      rw [if_neg (by simp), if_pos rfl, hvw]
      refine ⟨k1.act fun r hr => ?_, by simp only; rw [hp1]; rfl, fun r hr => ?_⟩
      · unfold sNew
        rw [if_neg]
        intro e; rw [e, k2] at hr; cases hr
      · simp only
        by_cases e : r = p
        · intro e2
          have := parent_lt v1
          rw [e, ] at e2
          rw [e2] at this
          exact lt_irr _ this
        · rw [act_k (q := r) (by unfold sNew; rw [if_neg e])] at hr
          intro e2
          cases hz : nodeAt M.nodes r with
          | none => exact hr (kind_none.2 hz)
          | some z =>
            obtain ⟨hzm, hzp⟩ := nodeAt_some hz
            rcases hM.inv.dir z hzm with h1 | ⟨y, hy, h1, _⟩
            · rw [hzp, e2] at h1
              exact valid_ne v1 h1
            · have : y.path = p := ba_ext (by rw [show y.path.data.toList = pathL y from rfl, h1, hzp, e2])
              exact nodeAt_none.1 (none_at k2) y hy this
    refine ⟨k2, by rw [hvw, hp1]; simp, hd, ?_⟩
    rw [vw_do hN.inv hd, hvw]
    unfold vDo sigC
    rw [if_neg (by simp), if_neg (by simp), if_pos (.inl rfl)]
    exact back_del k2 fun r hr => by unfold sNew; rw [if_neg hr]
  · obtain ⟨f1, _, hv⟩ := h'.resolve_left (by simp)
    obtain ⟨_, v1, v2, _⟩ := first0 f1
    unfold vOp at hv
    rw [if_neg (by simp), if_neg (by simp), if_neg (by simp), if_neg (by simp)] at hv
    obtain ⟨⟨k1, k2⟩, k3, k4⟩ := hv
    have v2 := v2 (by simp [toB])
    simp only at k1 k2 k3 k4 v1 v2
    unfold vDo sigC at hvw
    rw [if_neg (by simp), if_neg (by simp), if_neg (by simp), if_neg (by simp), if_pos rfl] at hvw
    simp only at hvw
    have hp1 : (M.vw.act (sLink q p)).k p = M.vw.k q := act_k (by unfold sLink; rw [if_pos rfl])
    have hd : doE (doM M ⟨4, q, p, 0, 0, hq, hp⟩ sd) ⟨5, p, ByteArray.empty, 0, 0, hp, by decide⟩ sd = 0 := by
      refine fin _ rfl (.inr (.inl rfl)) v2 (fun e => absurd e (by simp)) ?_
      unfold vOp
      rw [if_neg (by simp), if_neg (by simp), if_pos rfl, hvw]
      refine ⟨k3.act fun r hr => ?_, by simp only; rw [hp1]; exact k2⟩
      unfold sLink
      rw [if_neg]
      intro e; rw [e, k4] at hr; cases hr
    refine ⟨k4, (fun e => by rw [hvw, hp1] at e; rw [e] at k2; cases k2), hd, ?_⟩
    rw [vw_do hN.inv hd, hvw]
    unfold vDo sigC
    rw [if_neg (by simp), if_neg (by simp), if_pos (.inr rfl)]
    exact back_del k4 fun r hr => by unfold sLink; rw [if_neg hr]
  · obtain ⟨f1, _, hv⟩ := h'.resolve_left (by simp)
    obtain ⟨_, v1, v2, _⟩ := first0 f1
    unfold vOp at hv
    rw [if_neg (by simp), if_neg (by simp), if_neg (by simp), if_neg (by simp)] at hv
    obtain ⟨⟨k1, k2⟩, k3, k4⟩ := hv
    have v2 := v2 (by simp [toB])
    simp only at k1 k2 k3 k4 v1 v2
    unfold vDo sigC at hvw
    rw [if_neg (by simp), if_neg (by simp), if_neg (by simp), if_pos rfl] at hvw
    simp only at hvw
    have hqn : M.vw.k q ≠ none := fun e => by rw [e] at k2; cases k2
    have hne : ¬ p = q := fun e => hqn (by rw [← e]; exact k4)
    have hp1 : (M.vw.act (sMove q p)).k p = M.vw.k q := act_k (by unfold sMove; rw [if_neg hne, if_pos rfl])
    have hold : ∀ r, isD (M.vw.k r) = true → sMove q p r = .old r := fun r hr => by
      unfold sMove
      rw [if_neg, if_neg]
      · intro e; rw [e, k4] at hr; cases hr
      · intro e
        rw [e] at hr
        cases hz : M.vw.k q with
        | none => exact hqn hz
        | some z => rw [hz] at hr k2; cases z <;> simp [isD, isF] at hr k2
    have hd : doE (doM M ⟨3, q, p, 0, 0, hq, hp⟩ sd) ⟨3, p, q, 0, 0, hp, hq⟩ sd = 0 := by
      refine fin _ rfl (.inr (.inr rfl)) v2 (fun _ => v1) ?_
      unfold vOp
      rw [if_neg (by simp), if_neg (by simp), if_neg (by simp), if_neg (by simp), hvw]
      exact ⟨⟨k3.act hold, by simp only; rw [hp1]; exact k2⟩, k1.act hold, act_gone (by unfold sMove; rw [if_pos rfl])⟩
    refine ⟨k4, by rw [hvw, hp1]; exact hqn, hd, ?_⟩
    rw [vw_do hN.inv hd, hvw]
    unfold vDo sigC
    rw [if_neg (by simp), if_neg (by simp), if_neg (by simp), if_pos rfl]
    exact back_move k4 hqn
  · obtain ⟨f1, _, hv⟩ := h'.resolve_left (by simp)
    obtain ⟨_, v1, v2, _⟩ := first0 f1
    unfold vOp at hv
    rw [if_pos (.inr rfl)] at hv
    obtain ⟨k1, k2⟩ := hv
    simp only at k1 k2 v1
    unfold vDo sigC at hvw
    rw [if_neg (by simp), if_neg (by simp), if_neg (by simp), if_neg (by simp), if_neg (by simp), if_pos rfl] at hvw
    simp only at hvw
    obtain ⟨kd, hkd⟩ : ∃ kd, Kd.file mode (refData ⟨6, p, ByteArray.empty, mode, 0, hp, by decide⟩ sd) = kd := ⟨_, rfl⟩
    have hkf : isF (some kd) = true := by rw [← hkd]; rfl
    rw [hkd] at hvw
    have hp1 : (M.vw.act (sNew p kd true)).k p = some kd := act_fresh (f := true) (by unfold sNew; rw [if_pos rfl])
    have hd : doE (doM M ⟨6, p, ByteArray.empty, mode, 0, hp, by decide⟩ sd) ⟨5, p, ByteArray.empty, 0, 0, hp, by decide⟩ sd = 0 := by
      refine fin _ rfl (.inr (.inl rfl)) v1 (fun e => absurd e (by simp)) ?_
      unfold vOp
      rw [if_neg (by simp), if_neg (by simp), if_pos rfl, hvw]
      refine ⟨k1.act fun r hr => ?_, by simp only; rw [hp1]; exact hkf⟩
      unfold sNew
      rw [if_neg]
      intro e; rw [e, k2] at hr; cases hr
    refine ⟨k2, by rw [hvw, hp1]; simp, hd, ?_⟩
    rw [vw_do hN.inv hd, hvw]
    unfold vDo sigC
    rw [if_neg (by simp), if_neg (by simp), if_pos (.inr rfl)]
    exact back_del k2 fun r hr => by unfold sNew; rw [if_neg hr]
  · obtain ⟨f1, _, hv⟩ := h'.resolve_left (by simp)
    obtain ⟨_, v1, v2, _⟩ := first0 f1
    unfold vOp at hv
    rw [if_neg (by simp), if_neg (by simp), if_neg (by simp), if_neg (by simp)] at hv
    obtain ⟨⟨k1, k2⟩, k3, k4⟩ := hv
    have v2 := v2 (by simp [toB])
    simp only at k1 k2 k3 k4 v1 v2
    unfold vDo sigC at hvw
    rw [if_neg (by simp), if_neg (by simp), if_neg (by simp), if_neg (by simp), if_neg (by simp), if_neg (by simp), if_pos rfl] at hvw
    simp only at hvw
    obtain ⟨kd, hkd⟩ : ∃ kd, Kd.file mode (kdData (M.vw.k q)) = kd := ⟨_, rfl⟩
    have hkf : isF (some kd) = true := by rw [← hkd]; rfl
    rw [hkd] at hvw
    have hp1 : (M.vw.act (sNew p kd true)).k p = some kd := act_fresh (f := true) (by unfold sNew; rw [if_pos rfl])
    have hd : doE (doM M ⟨7, q, p, mode, 0, hq, hp⟩ sd) ⟨5, p, ByteArray.empty, 0, 0, hp, by decide⟩ sd = 0 := by
      refine fin _ rfl (.inr (.inl rfl)) v2 (fun e => absurd e (by simp)) ?_
      unfold vOp
      rw [if_neg (by simp), if_neg (by simp), if_pos rfl, hvw]
      refine ⟨k3.act fun r hr => ?_, by simp only; rw [hp1]; exact hkf⟩
      unfold sNew
      rw [if_neg]
      intro e; rw [e, k4] at hr; cases hr
    refine ⟨k4, by rw [hvw, hp1]; simp, hd, ?_⟩
    rw [vw_do hN.inv hd, hvw]
    unfold vDo sigC
    rw [if_neg (by simp), if_neg (by simp), if_pos (.inr rfl)]
    exact back_del k4 fun r hr => by unfold sNew; rw [if_neg hr]
/-- The law of ModelUndo, of one pair. -/
theorem undo_law {t : TV} {ds : List ByteArray} {w : World} (hT : TreeD w t ds) {p q : ByteArray} {mode : Int} {hp : p.size ≤ 9223372036854775807} {hq : q.size ≤ 9223372036854775807} {sd : List ByteArray} {x : Cmd × Cmd} (hx : x ∈ undoP p q mode hp hq) (h : DoE t ds x.1 sd = 0) {u : TV} {es : List ByteArray} (hu : TellsM (doW t ds x.1 sd) u es) {w' : World} (hU : TreeD w' u es) :
    DoE u es x.2 sd = 0 ∧ (∀ v fs, TellsM (doW u es x.2 sd) v fs → exactB v t fs ds = true) ∧ exactB u t es ds = false := by
  obtain ⟨hl, h0⟩ := doE_loose h
  have hM := open_ok hT hl
  have hW : doW t ds x.1 sd = doM (openM t ds) x.1 sd := by unfold doW; rw [if_pos h]
  rw [hW] at hu
  obtain ⟨k1, k2, k3, k4⟩ := undo_do hM hx h0
  have hN := hM.do x.1 sd
  obtain ⟨hlu, hV⟩ := told_opened hN hu
  have hMu := open_ok hU hlu
  have hE : DoE u es x.2 sd = 0 := by
    unfold DoE
    rw [if_pos hlu, hV.doE hMu.inv hN.inv]
    exact k3
  refine ⟨hE, fun v fs hv => ?_, told_other hN k1 k2 hu⟩
  have hW2 : doW u es x.2 sd = doM (openM u es) x.2 sd := by unfold doW; rw [if_pos hE]
  rw [hW2] at hv
  have hV2 := hV.do hMu hN x.2 sd
  refine told_back (hMu.do x.2 sd) hT hl (hV2.trans ?_) hv
  exact SameV.of_vw k4 (hN.do x.2 sd).inv.apart hM.inv.apart

/-- A path that an instruction names. -/
def Cmd.at (c : Cmd) (r : ByteArray) : Prop := r = c.path ∨ r = c.dst
instance (c : Cmd) (r : ByteArray) : Decidable (c.at r) := inferInstanceAs (Decidable (r = c.path ∨ r = c.dst))
/-- What is made of paths that are not named comes from themselves; what comes from another path comes from a named one. -/
structure Near (σ : ByteArray → Src) (X : ByteArray → Prop) : Prop where
  away : ∀ r, ¬ X r → σ r = .old r
  from_ : ∀ r q, σ r = .old q → q = r ∨ X q
theorem sig_near (c : Cmd) (sd : List ByteArray) (D : ByteArray) : Near (sigC c sd D) c.at := by
  have nw : ∀ p k f, c.at p → Near (sNew p k f) c.at := fun p k f hp => by
    refine ⟨fun r hr => ?_, fun r q h => ?_⟩
    · unfold sNew; rw [if_neg]; exact fun e => hr (e ▸ hp)
    · unfold sNew at h
      split at h
      · cases h
      · injection h with h; exact .inl h.symm
  have ol : Near Src.old c.at := ⟨fun _ _ => rfl, fun r q h => by injection h with h; exact .inl h.symm⟩
  unfold sigC
  split
  · exact nw _ _ _ (.inl rfl)
  · split
    · refine ⟨fun r hr => ?_, fun r q h => ?_⟩
      · unfold sDel; rw [if_neg]; exact fun e => hr (.inl e)
      · unfold sDel at h
        split at h
        · cases h
        · injection h with h; exact .inl h.symm
    · split
      · refine ⟨fun r hr => ?_, fun r q h => ?_⟩
        · unfold sMove; rw [if_neg (fun e => hr (.inl e)), if_neg (fun e => hr (.inr e))]
        · unfold sMove at h
          split at h
          · cases h
          · split at h
            · injection h with h; exact .inr (.inl h.symm)
            · injection h with h; exact .inl h.symm
      · split
        · refine ⟨fun r hr => ?_, fun r q h => ?_⟩
          · unfold sLink; rw [if_neg (fun e => hr (.inr e))]
          · unfold sLink at h
            split at h
            · injection h with h; exact .inr (.inl h.symm)
            · injection h with h; exact .inl h.symm
        · split
          · exact nw _ _ _ (.inl rfl)
          · split
            · exact nw _ _ _ (.inr rfl)
            · exact ol
theorem sig_data {c : Cmd} (h : c.op ≠ 7) (sd : List ByteArray) (D D' : ByteArray) : sigC c sd D = sigC c sd D' := by
  unfold sigC
  simp only [if_neg h]
/-- Far apart. -/
def Apart2 (X Y : ByteArray → Prop) : Prop := ∀ r, X r → ¬ Y r
def src2 (Y : ByteArray → Prop) [DecidablePred Y] (σ τ : ByteArray → Src) (q : ByteArray) : Src := if Y q then τ q else σ q
theorem act_k_eq (V : Vw) (σ : ByteArray → Src) (q : ByteArray) : (V.act σ).k q = match σ q with
    | .old r => V.k r
    | .gone => none
    | .fresh k _ => some k := rfl
theorem act_s_eq (V : Vw) (σ : ByteArray → Src) (a b : ByteArray) : (V.act σ).s a b = match σ a, σ b with
    | .old r, .old t => V.s r t
    | .fresh _ f, .fresh _ _ => f && decide (a = b)
    | _, _ => false := rfl
theorem act_act (V : Vw) {σ τ : ByteArray → Src} {X Y : ByteArray → Prop} [DecidablePred Y] (hσ : Near σ X) (hτ : Near τ Y) (hXY : Apart2 X Y) : (V.act σ).act τ = V.act (src2 Y σ τ) := by
  have hback : ∀ a r, Y a → τ a = .old r → σ r = .old r := fun a r ha h => by
    refine hσ.away r fun hx => ?_
    rcases hτ.from_ a r h with e | hy
    · exact hXY r hx (e ▸ ha)
    · exact hXY r hx hy
  refine Vw.ext2 (fun q => ?_) (fun a b => ?_)
  · rw [act_k_eq, act_k_eq]
    unfold src2
    by_cases hq : Y q
    · rw [if_pos hq]
      cases h : τ q with
      | old r =>
        simp only
        rw [act_k_eq, hback q r hq h]
      | gone => rfl
      | fresh k f => rfl
    · rw [if_neg hq, hτ.away q hq]
      rfl
  · rw [act_s_eq, act_s_eq]
    unfold src2
    by_cases ha : Y a <;> by_cases hb : Y b
    · rw [if_pos ha, if_pos hb]
      cases h : τ a with
      | old r =>
        cases h2 : τ b with
        | old r' => simp only; rw [act_s_eq, hback a r ha h, hback b r' hb h2]
        | gone => rfl
        | fresh k f => rfl
      | gone => cases h2 : τ b <;> rfl
      | fresh k f => cases h2 : τ b <;> rfl
    · rw [if_pos ha, if_neg hb, hτ.away b hb]
      have hne : ¬ a = b := fun e => hb (e ▸ ha)
      cases h : τ a with
      | old r => simp only; rw [act_s_eq, hback a r ha h]; cases σ b <;> rfl
      | gone => simp only
      | fresh k f => simp only; cases σ b <;> simp [hne]
    · rw [if_neg ha, if_pos hb, hτ.away a ha]
      have hne : ¬ a = b := fun e => ha (e ▸ hb)
      cases h : τ b with
      | old r => simp only; rw [act_s_eq, hback b r hb h]; cases σ a <;> rfl
      | gone => simp only; cases σ a <;> rfl
      | fresh k f => simp only; cases σ a <;> simp [hne]
    · rw [if_neg ha, if_neg hb, hτ.away a ha, hτ.away b hb]
      rfl
theorem act_comm (V : Vw) {σ τ : ByteArray → Src} {X Y : ByteArray → Prop} [DecidablePred X] [DecidablePred Y] (hσ : Near σ X) (hτ : Near τ Y) (hXY : Apart2 X Y) : (V.act σ).act τ = (V.act τ).act σ := by
  rw [act_act V hσ hτ hXY, act_act V hτ hσ (fun r hy hx => hXY r hx hy)]
  congr 1
  funext q
  unfold src2
  by_cases hx : X q <;> by_cases hy : Y q
  · exact absurd hy (hXY q hx)
  · rw [if_neg hy, if_pos hx]
  · rw [if_pos hy, if_neg hx]
  · rw [if_neg hy, if_neg hx, hσ.away q hx, hτ.away q hy]
theorem chm_comm (V : Vw) {τ : ByteArray → Src} {Y : ByteArray → Prop} [DecidablePred Y] (hτ : Near τ Y) {p : ByteArray} (hp : ¬ Y p) (m : Int) : (V.chm p m).act τ = (V.act τ).chm p m := by
  refine Vw.ext2 (fun q => ?_) (fun a b => rfl)
  show (match τ q with
    | .old r => (if r = p ∨ V.s p r = true then (V.k r).map (kdMode m) else V.k r)
    | .gone => none
    | .fresh k _ => some k) = if q = p ∨ (V.act τ).s p q = true then ((V.act τ).k q).map (kdMode m) else (V.act τ).k q
  rw [act_k_eq, act_s_eq, hτ.away p hp]
  have hne : ∀ {x}, τ q = x → (∀ r, x ≠ .old r) → ¬ q = p := fun {x} h hx e => by
    rw [e, hτ.away p hp] at h
    exact hx p h.symm
  cases h : τ q with
  | old r =>
    simp only
    have e : r = p ↔ q = p := by
      constructor
      · intro e
        rcases hτ.from_ q r h with e2 | hy
        · exact e2.symm.trans e
        · exact absurd (e ▸ hy) hp
      · intro e
        rw [e, hτ.away p hp] at h
        injection h with h; exact h.symm
    simp only [e]
  | gone => simp
  | fresh k f =>
    simp only
    rw [if_neg]
    rintro (h1 | h1)
    · exact hne h (fun r => by simp) h1
    · cases h1
/-- What two instructions far apart make of a look, either way. -/
theorem vDo_comm (V : Vw) {x y : Cmd} (sd : List ByteArray) (hX : Apart2 x.at y.at) (h7 : x.op ≠ 7 ∧ y.op ≠ 7) (h8 : ¬ (x.op = 8 ∧ y.op = 8)) : vDo (vDo V x sd) y sd = vDo (vDo V y sd) x sd := by
  have hx : ∀ D, sigC x sd D = sigC x sd ByteArray.empty := fun D => sig_data h7.1 sd D _
  have hy : ∀ D, sigC y sd D = sigC y sd ByteArray.empty := fun D => sig_data h7.2 sd D _
  unfold vDo
  simp only [hx, hy]
  by_cases ax : x.op = 8 <;> by_cases ay : y.op = 8
  · exact absurd ⟨ax, ay⟩ h8
  · rw [if_pos ax, if_neg ay, if_neg ay, if_pos ax]
    exact chm_comm V (sig_near y sd _) (hX _ (.inl rfl)) _
  · rw [if_neg ax, if_pos ay, if_pos ay, if_neg ax]
    exact (chm_comm V (sig_near x sd _) (fun h => hX _ h (.inl rfl)) _).symm
  · rw [if_neg ax, if_neg ay, if_neg ay, if_neg ax]
    exact act_comm V (sig_near x sd _) (sig_near y sd _) hX

/-- What is at a path that is not named: a directory stays one, a file stays one, with its bytes; only a chmod turns a mode. -/
theorem vDo_away (V : Vw) (c : Cmd) (sd : List ByteArray) {r : ByteArray} (hr : ¬ c.at r) : (c.op ≠ 8 → (vDo V c sd).k r = V.k r) ∧ ((vDo V c sd).k r = V.k r ∨ (V.s c.path r = true ∧ (vDo V c sd).k r = (V.k r).map (kdMode c.mode))) := by
  unfold vDo
  by_cases h8 : c.op = 8
  · rw [if_pos h8]
    refine ⟨fun h => absurd h8 h, ?_⟩
    show (if r = c.path ∨ V.s c.path r = true then (V.k r).map (kdMode c.mode) else V.k r) = _ ∨ _ ∧ (if r = c.path ∨ V.s c.path r = true then (V.k r).map (kdMode c.mode) else V.k r) = _
    by_cases hs : V.s c.path r = true
    · exact .inr ⟨hs, by rw [if_pos (.inr hs)]⟩
    · exact .inl (by rw [if_neg (fun h => h.elim (fun e => hr (.inl e)) hs)])
  · rw [if_neg h8]
    have : (V.act (sigC c sd (kdData (V.k c.path)))).k r = V.k r := act_k_of V _ ((sig_near c sd _).away r hr)
    exact ⟨fun _ => this, .inl this⟩
where act_k_of (V : Vw) (σ : ByteArray → Src) {r q : ByteArray} (h : σ r = .old q) : (V.act σ).k r = V.k q := by rw [act_k_eq, h]
theorem vDo_away_s (V : Vw) (c : Cmd) (sd : List ByteArray) {r q : ByteArray} (hr : ¬ c.at r) (hq : ¬ c.at q) : (vDo V c sd).s r q = V.s r q := by
  unfold vDo
  split
  · rfl
  · rw [act_s_eq, (sig_near c sd _).away r hr, (sig_near c sd _).away q hq]
theorem isD_map (k : Option Kd) (m : Int) : isD (k.map (kdMode m)) = isD k ∧ isF (k.map (kdMode m)) = isF k ∧ (k.map (kdMode m) = none ↔ k = none) := by
  cases k with
  | none => exact ⟨rfl, rfl, Iff.rfl⟩
  | some z => cases z <;> exact ⟨rfl, rfl, by simp⟩
theorem away_kind (V : Vw) (c : Cmd) (sd : List ByteArray) {r : ByteArray} (hr : ¬ c.at r) : isD ((vDo V c sd).k r) = isD (V.k r) ∧ isF ((vDo V c sd).k r) = isF (V.k r) ∧ ((vDo V c sd).k r = none ↔ V.k r = none) := by
  rcases (vDo_away V c sd hr).2 with h | ⟨_, h⟩
  · rw [h]; exact ⟨rfl, rfl, Iff.rfl⟩
  · rw [h]; exact isD_map _ _

/-- Paths that begin unlike. -/
def headB (s : ByteArray) : Option UInt8 := s.data.toList.head?
theorem head_extract {s : ByteArray} {i : Nat} (h : 0 < i) : headB (s.extract 0 i) = headB s := by
  unfold headB
  rw [ByteArray.data_extract, Array.toList_extract, List.extract_eq_take_drop, List.drop_zero, Nat.sub_zero]
  cases hl : s.data.toList with
  | nil => simp
  | cons a t =>
    cases i with
    | zero => omega
    | succ n => rfl
theorem valid_head {s : ByteArray} (h : validL s.data.toList = true) : ¬ s.data.toList[0]? = some 47 := fun e => by
  cases hl : s.data.toList with
  | nil => rw [hl] at e; cases e
  | cons a t =>
    rw [hl] at e h
    simp only [List.getElem?_cons_zero, Option.some.injEq] at e
    subst e
    unfold validL at h
    rw [vrun_slash_bad rfl rfl] at h
    cases h
theorem prefix_head {s : ByteArray} (h : validL s.data.toList = true) {i : Nat} (hi : s.data.toList[i]? = some 47) : headB (s.extract 0 i) = headB s := by
  cases i with
  | zero => exact absurd hi (valid_head h)
  | succ n => exact head_extract (Nat.succ_pos n)
theorem parent_head {s p : ByteArray} (hp : p.data.toList ≠ []) (h : parentB s = p) : headB s = headB p := by
  unfold parentB at h
  split at h
  · subst h
    cases hn : (lastIx s 47).toNat with
    | zero =>
      rw [hn] at hp
      exact absurd (by simp) hp
    | succ n => exact (head_extract (Nat.succ_pos n)).symm
  · subst h
    exact absurd rfl hp
theorem okUp_away {V : Vw} {c : Cmd} {sd : List ByteArray} {p : ByteArray} (hv : validL p.data.toList = true) (hf : ∀ r, c.at r → headB r ≠ headB p) : OkUp (vDo V c sd) p ↔ OkUp V p := by
  have key : ∀ i, p.data.toList[i]? = some 47 → isD ((vDo V c sd).k (p.extract 0 i)) = isD (V.k (p.extract 0 i)) := fun i hi =>
    (away_kind V c sd fun h => hf _ h (prefix_head hv hi)).1
  constructor
  · intro h i h1 h2; rw [← key i h2]; exact h i h1 h2
  · intro h i h1 h2; rw [key i h2]; exact h i h1 h2
theorem vOp_away {V : Vw} {x y : Cmd} {sd : List ByteArray} (hf : ∀ a b, x.at a → y.at b → headB a ≠ headB b) (v1 : validL y.path.data.toList = true) (v2 : toB y.op = true → validL y.dst.data.toList = true) (h9 : isOp y.op = true ∧ y.op ≠ 9) : vOp (vDo V x sd) y ↔ vOp V y := by
  have up := okUp_away (V := V) (c := x) (sd := sd) v1 (fun r hr => hf r _ hr (.inl rfl))
  have kp := away_kind V x sd (r := y.path) (fun h => hf _ _ h (.inl rfl) rfl)
  unfold vOp
  split
  · rw [up, kp.2.2]
  · split
    · rw [up, kp.1]
      refine and_congr_right fun _ => and_congr_right fun _ => forall_congr' fun q => ?_
      by_cases hq : parentB q = y.path
      · have hh := parent_head (valid_ne v1) hq
        have := (away_kind V x sd (r := q) (fun h => hf _ _ h (.inl rfl) hh)).2.2
        rw [Ne, Ne, this]
      · simp [hq]
    · split
      · rw [up, kp.2.1]
      · split
        · rw [up, Ne, Ne, kp.2.2]
        · rename_i h1 h2 h3 h4
          have hop : 1 ≤ y.op ∧ y.op ≤ 9 := by simpa [isOp] using h9.1
          have ht : toB y.op = true := by simp [toB]; omega
          have ud := okUp_away (V := V) (c := x) (sd := sd) (v2 ht) (fun r hr => hf r _ hr (.inr rfl))
          have kd := away_kind V x sd (r := y.dst) (fun h => hf _ _ h (.inr rfl) rfl)
          rw [up, kp.2.1, ud, kd.2.2]
theorem do_len (M : PW) (c : Cmd) (sd : List ByteArray) : (doM M c sd).nodes.length ≤ M.nodes.length + 1 := by
  have tk : ∀ (N : PW) p, (N.takeAt p).nodes.length ≤ N.nodes.length := fun N p => by
    unfold PW.takeAt
    split
    · exact List.length_filter_le _ _
    · exact Nat.le_refl _
  unfold doM
  split
  · unfold opM
    split
    · simp [PW.put]
    · split
      · have := tk M c.path; omega
      · split
        · have := tk (M.put ⟨c.dst, lookF M.nodes c.path, 0, c.hd⟩) c.path
          simp only [PW.put, List.length_append, List.length_cons, List.length_nil] at this ⊢
          exact this
        · split
          · simp [PW.put]
          · split
            · simp [PW.made]
            · split
              · simp [PW.made]
              · rw [(chmod_len M c.path c.mode).1]; omega
  · omega
theorem do_indep {M : PW} (hM : WOkP M) (hl : M.nodes.length ≤ 250) {x y : Cmd} {sd : List ByteArray} (hf : ∀ a b, x.at a → y.at b → headB a ≠ headB b) (hx : doE M x sd = 0) : doE (doM M x sd) y sd = 0 ↔ doE M y sd = 0 := by
  have hvw := vw_do hM.inv hx
  have hlen := do_len M x sd
  rw [do0_iff, do0_iff, hvw]
  refine and_congr_right fun hop => ?_
  by_cases h9 : y.op = 9
  · simp [h9]
  · simp only [h9, false_or]
    refine and_congr_right fun h1 => ?_
    obtain ⟨_, v1, v2, _⟩ := first0 h1
    rw [vOp_away hf v1 v2 ⟨hop, h9⟩]
    refine and_congr_left fun _ => ?_
    constructor <;> intro _ _ <;> omega
def runE (M : PW) (x y : Cmd) (sd : List ByteArray) : Prop := doE M x sd = 0 ∧ doE (doM M x sd) y sd = 0
theorem runE_swap {M : PW} (hM : WOkP M) (hl : M.nodes.length ≤ 250) {x y : Cmd} {sd : List ByteArray} (hf : ∀ a b, x.at a → y.at b → headB a ≠ headB b) : runE M x y sd ↔ runE M y x sd := by
  have hg : ∀ a b, y.at a → x.at b → headB a ≠ headB b := fun a b ha hb e => hf b a hb ha e.symm
  constructor
  · rintro ⟨h1, h2⟩
    have h3 := (do_indep hM hl hf h1).1 h2
    exact ⟨h3, (do_indep hM hl hg h3).2 h1⟩
  · rintro ⟨h1, h2⟩
    have h3 := (do_indep hM hl hg h1).1 h2
    exact ⟨h3, (do_indep hM hl hf h3).2 h1⟩
theorem run2 (sd : List ByteArray) (M : PW) (x y : Cmd) : ((runG sd [x, y] M 0).2.2 = 0 ↔ runE M x y sd) ∧ (runE M x y sd → (runG sd [x, y] M 0).1 = doM (doM M x sd) y sd) := by
  unfold runE
  rw [runG]
  by_cases h1 : doE M x sd = 0
  · rw [if_pos h1, runG]
    by_cases h2 : doE (doM M x sd) y sd = 0
    · rw [if_pos h2]
      exact ⟨⟨fun _ => ⟨h1, h2⟩, fun _ => rfl⟩, fun _ => rfl⟩
    · rw [if_neg h2]
      exact ⟨⟨fun h => absurd h h2, fun h => absurd h.2 h2⟩, fun h => absurd h.2 h2⟩
  · rw [if_neg h1]
    exact ⟨⟨fun h => absurd h h1, fun h => absurd h.1 h1⟩, fun h => absurd h.1 h1⟩
/-- The law of ModelSwap. -/
theorem swap_law {t : TV} {ds : List ByteArray} {w : World} (hT : TreeD w t ds) (hn : t.nn ≤ 250) {x y : Cmd} {sd : List ByteArray} (hf : ∀ a b, x.at a → y.at b → headB a ≠ headB b) :
    ((runR t ds [x, y] sd).2.2 = 0 ↔ (runR t ds [y, x] sd).2.2 = 0) ∧ ((runR t ds [x, y] sd).2.2 = 0 → x.op ≠ 7 ∧ y.op ≠ 7 → ¬ (x.op = 8 ∧ y.op = 8) → SameV (runR t ds [x, y] sd).1 (runR t ds [y, x] sd).1) := by
  by_cases hl : looseE t = 0
  · have e : ∀ cs, runR t ds cs sd = runG sd cs (openM t ds) 0 := fun cs => by unfold runR; rw [if_pos hl]
    have hM := open_ok hT hl
    have hlen : (openM t ds).nodes.length ≤ 250 := by show t.nodes.length ≤ 250; rw [hT.tree.nl]; exact hn
    rw [e, e]
    obtain ⟨a1, a2⟩ := run2 sd (openM t ds) x y
    obtain ⟨b1, b2⟩ := run2 sd (openM t ds) y x
    have hs := runE_swap (sd := sd) hM hlen hf
    refine ⟨a1.trans (hs.trans b1.symm), fun h h7 h8 => ?_⟩
    have h1 := a1.1 h
    have h2 := hs.1 h1
    rw [a2 h1, b2 h2]
    have o1 := (hM.do x sd).do y sd
    have o2 := (hM.do y sd).do x sd
    refine SameV.of_vw ?_ o1.inv.apart o2.inv.apart
    rw [vw_do (hM.do x sd).inv h1.2, vw_do hM.inv h1.1, vw_do (hM.do y sd).inv h2.2, vw_do hM.inv h2.1]
    exact vDo_comm _ sd (fun r hx hy => hf r r hx hy rfl) h7 h8
  · have e : ∀ cs, runR t ds cs sd = (openM zeroTV [], 0, looseE t) := fun cs => by unfold runR; rw [if_neg hl]
    rw [e, e]
    exact ⟨Iff.rfl, fun h => absurd h hl⟩
end Go.Proofs.Ythmeffpickejkaa
