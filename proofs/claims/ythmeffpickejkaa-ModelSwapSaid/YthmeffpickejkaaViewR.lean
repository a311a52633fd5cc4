/- Lists of instructions and looks; model.Run of any tree, as one answer. -/
import Derived.Test.YthmeffpickejkaaView
import Derived.Test.YthmeffpickejkaaRun7
import Derived.Test.YthmeffpickejkaaOpenC
namespace Go.Proofs.Ythmeffpickejkaa
open Go.RowKit

/-- A world that holds to what a world holds to, and is not too great. -/
structure WOkP (M : PW) : Prop where
  inv : M.Inv
  len : M.nodes.length ≤ 256
theorem WOkP.do {M : PW} (h : WOkP M) (c : Cmd) (sd : List ByteArray) : WOkP (doM M c sd) := ⟨(inv_do h.inv h.len c sd).1, (inv_do h.inv h.len c sd).2.1⟩
theorem WOkP.run (sd : List ByteArray) : ∀ (cs : List Cmd) {M : PW} (_ : WOkP M) (k : Nat), WOkP (runG sd cs M k).1
  | [], M, h, k => h
  | c :: cs, M, h, k => by
    rw [runG]
    split
    · exact WOkP.run sd cs (h.do c sd) (k + 1)
    · exact h
theorem SameV.do {M N : PW} (h : SameV M N) (hM : WOkP M) (hN : WOkP N) (c : Cmd) (sd : List ByteArray) : SameV (Go.Proofs.Ythmeffpickejkaa.doM M c sd) (Go.Proofs.Ythmeffpickejkaa.doM N c sd) := h.doM hM.inv hN.inv hM.len c sd
theorem SameV.run (sd : List ByteArray) : ∀ (cs : List Cmd) {M N : PW} (_ : SameV M N) (_ : WOkP M) (_ : WOkP N) (k : Nat), SameV (runG sd cs M k).1 (runG sd cs N k).1 ∧ (runG sd cs M k).2 = (runG sd cs N k).2
  | [], M, N, h, _, _, k => ⟨h, rfl⟩
  | c :: cs, M, N, h, hM, hN, k => by
    have e := h.doE hM.inv hN.inv c sd
    rw [runG, runG, e]
    split
    · exact SameV.run sd cs (h.do hM hN c sd) (hM.do c sd) (hN.do c sd) (k + 1)
    · exact ⟨h, rfl⟩
theorem runG_shift (sd : List ByteArray) (j : Nat) : ∀ (cs : List Cmd) (M : PW) (k : Nat), runG sd cs M (k + j) = ((runG sd cs M k).1, (runG sd cs M k).2.1 + j, (runG sd cs M k).2.2)
  | [], M, k => rfl
  | c :: cs, M, k => by
    rw [runG, runG]
    split
    · rw [show k + j + 1 = k + 1 + j by omega, runG_shift sd j cs]
    · rfl
theorem runG_app (sd : List ByteArray) (b : List Cmd) : ∀ (a : List Cmd) (M : PW) (k : Nat), runG sd (a ++ b) M k = if (runG sd a M k).2.2 = 0 then runG sd b (runG sd a M k).1 (runG sd a M k).2.1 else runG sd a M k
  | [], M, k => by rw [List.nil_append, runG, if_pos rfl]
  | c :: a, M, k => by
    rw [List.cons_append, runG, runG]
    split
    · exact runG_app sd b a _ _
    · rfl
theorem runG_all (sd : List ByteArray) : ∀ (a : List Cmd) (M : PW) (k : Nat), (runG sd a M k).2.2 = 0 → (runG sd a M k).2.1 = k + a.length
  | [], M, k, _ => rfl
  | c :: a, M, k, h => by
    rw [runG] at h ⊢
    split
    · rename_i h0
      rw [if_pos h0] at h
      rw [runG_all sd a _ _ h, List.length_cons]; omega
    · rename_i h0
      rw [if_neg h0] at h
      exact absurd h h0
theorem runG_le (sd : List ByteArray) : ∀ (a : List Cmd) (M : PW) (k : Nat), (runG sd a M k).2.1 ≤ k + a.length
  | [], M, k => Nat.le_refl _
  | c :: a, M, k => by
    rw [runG]
    split
    · have := runG_le sd a (doM M c sd) (k + 1)
      rw [List.length_cons]; omega
    · simp only [List.length_cons]; omega
/-- What Run says of any tree. -/
def runR (t : TV) (ds : List ByteArray) (cs : List Cmd) (sd : List ByteArray) : PW × Nat × Int := if looseE t = 0 then runG sd cs (openM t ds) 0 else (openM zeroTV [], 0, looseE t)
/-- A tree that a world was told as, somewhere. -/
def TellsM (M : PW) (u : TV) (es : List ByteArray) : Prop := ∃ b w S, ToldAs M b w S u ∧ es = dsOf M S
theorem zero_told (b : Nat) (w : World) : ToldAs (openM zeroTV []) b w [] zeroTV :=
  ⟨List.Perm.refl _, List.Pairwise.nil, rfl, rfl, rfl, rfl, rfl, ⟨rfl, .inl ⟨rfl, rfl⟩⟩, ⟨rfl, .inl ⟨rfl, rfl⟩⟩, FRows.nil _ _ _⟩
theorem zero_ok : WOkP (openM zeroTV []) := ⟨inv_open (good_of_loose (by kernel_rfl)) rfl rfl (fun k x d h _ => (by simp [zeroTV] at h)), by show ([] : List Node).length ≤ 256; decide⟩
theorem open_ok {t : TV} {ds : List ByteArray} {w : World} (h : TreeD w t ds) (hl : looseE t = 0) : WOkP (openM t ds) := by
  have hG := good_of_loose hl
  refine ⟨inv_open hG h.tree.fl h.dat.len fun k x d hx hd => ?_, ?_⟩
  · obtain ⟨d', hd', e, _⟩ := h.dat.get hx
    rw [hd] at hd'; injection hd' with hd'; rw [hd', e]
  · show t.nodes.length ≤ 256
    rw [h.tree.nl]; exact hG.nn
theorem runR_ok {t : TV} {ds : List ByteArray} {w : World} (h : TreeD w t ds) (cs : List Cmd) (sd : List ByteArray) : WOkP (runR t ds cs sd).1 := by
  unfold runR
  split
  · rename_i hl; exact WOkP.run sd cs (open_ok h hl) 0
  · exact zero_ok
theorem told_exactB {M N : PW} (hM : WOkP M) (hN : WOkP N) (hV : SameV M N) {u v : TV} {es fs : List ByteArray} (h : TellsM M u es) (k : TellsM N v fs) : exactB u v es fs = true := by
  obtain ⟨_, _, _, h, rfl⟩ := h
  obtain ⟨_, _, _, k, rfl⟩ := k
  exact told_exact hM.inv hN.inv hM.len hN.len hV h k
theorem told_opened {M : PW} (hM : WOkP M) {u : TV} {es : List ByteArray} (h : TellsM M u es) : looseE u = 0 ∧ SameV (openM u es) M := by
  obtain ⟨_, _, _, h, rfl⟩ := h
  exact ⟨loose_of_P (told_loose hM.inv hM.len h), told_open hM.inv hM.len h⟩
theorem ToldAs.tells {M : PW} {b : Nat} {w : World} {S : List Node} {u : TV} (h : ToldAs M b w S u) : TellsM M u (dsOf M S) := ⟨_, _, S, h, rfl⟩
theorem Run_any (t : TV) (ds : List ByteArray) (cs : List Cmd) (hco : ∀ c ∈ cs, OpOk c) (A : Option Addr) (n cap : Nat) (SA : Option Addr) (sn sc : Nat) (ss : List SC) (sd : List ByteArray) (w : World) (h : TreeD w t ds) (hA : Sl w w.heap.size 5 A n (cs.flatMap Cmd.list)) (hn : cs.length = n) (hn4 : n ≤ 4096) (hS : StockAt w SA sn ss sd) :
    Calls Try.prog 34 #[t.val, .slice A n cap, .slice SA sn sc] w fun e w' => ∃ u S, e = .returned (.tuple #[u.val, .int .i64 (runR t ds cs sd).2.1, .int .i64 (runR t ds cs sd).2.2]) ∧ ToldAs (runR t ds cs sd).1 w.heap.size w' S u ∧ Below w.heap.size w w' := by
  by_cases hl : looseE t = 0
  · have e : runR t ds cs sd = runG sd cs (openM t ds) 0 := by unfold runR; rw [if_pos hl]
    rw [e]
    refine (run_any t ds cs hco A n cap SA sn sc ss sd w h hl hA hn hn4 hS).mono ?_
    rintro e w' ⟨u, he, ⟨S, hS⟩, hb⟩
    exact ⟨u, S, he, hS, hb⟩
  · have e : runR t ds cs sd = (openM zeroTV [], 0, looseE t) := by unfold runR; rw [if_neg hl]
    rw [e]
    refine (run_no (looseE t) t A n cap SA sn sc w fun W hW => all_no t A n cap SA sn sc _ W (h.tree.keep hW) hl).mono ?_
    rintro e w' ⟨he, hb⟩
    exact ⟨zeroTV, [], he, zero_told _ _, hb⟩
/-- What stands behind a call whose tree is kept in a block of its own. -/
def TreeCut (M : PW) (w : World) (p : Value) (wx : World) : Prop :=
  ∃ u es g, p = .pointer (some ⟨g, 0, none⟩) ∧ Blk wx g 25 #[.slice u.NA u.nn u.nc, .slice u.FA u.fn u.fc] ∧ w.heap.size ≤ g ∧ TreeD wx u es ∧ TellsM M u es ∧ Below w.heap.size w wx
theorem TreeCut.alloc {M : PW} {w w5 : World} {b : Nat} {S : List Node} {u : TV} (h : ToldAs M b w5 S u) (hb : Below w.heap.size w w5) : TreeCut M w (.pointer (some ⟨w5.heap.size, 0, none⟩)) (w5.alloc (.cells #[.slice u.NA u.nn u.nc, .slice u.FA u.fn u.fc] 25)) :=
  ⟨u, _, _, rfl, Blk.new _ _ _, hb.size, h.tree.keep ((Below.refl w5.heap.size w5).alloc (Nat.le_refl _) _), h.tells, hb.alloc hb.size _⟩
theorem TreeCut.store {M : PW} {w w5 w6 : World} {b g : Nat} {S : List Node} {u : TV} {cs : Array Value} (h : ToldAs M b w5 S u) (hb : Below w.heap.size w w5) (hZ : Blk w5 g 25 cs) (hB : Blk w6 g 25 #[.slice u.NA u.nn u.nc, .slice u.FA u.fn u.fc]) (hg : w5.grownBy w6 (some g)) (hw : w.heap.size ≤ g) : TreeCut M w (.pointer (some ⟨g, 0, none⟩)) w6 :=
  ⟨u, _, g, rfl, hB, hw, (h.store hZ hg).tree, (h.store hZ hg).tells, hb.trans (below_grown hg hb.size (fun g' e => by injection e with e; omega))⟩
/-- A slice from an element on. -/
theorem Sl.rest {w : World} {B sz n c : Nat} {A : Option Addr} {L : List Value} (h : Sl w B sz A n L) {k : Nat} (hk : k ≤ n) (hnc : n ≤ c) : Sl w B sz (if c = k then A else A.map (fun a => a.add (k * sz))) (n - k) (L.drop (k * sz)) := by
  refine ⟨by rw [List.length_drop, h.1, Nat.sub_mul], fun h0 => ?_⟩
  obtain ⟨b, o, rfl, hb, hr⟩ := h.2 (by omega)
  rw [if_neg (by omega)]
  exact ⟨b, o + k * sz, by simp [add_at], hb, hr.drop _⟩
/-- Run of a list, and of its two parts. -/
theorem runR_split {t : TV} {ds : List ByteArray} {w : World} (h : TreeD w t ds) (cs : List Cmd) (sd : List ByteArray) (k : Nat) (hk : k ≤ cs.length) :
    ((runR t ds (cs.take k) sd).2.2 ≠ 0 → runR t ds cs sd = runR t ds (cs.take k) sd) ∧
    ((runR t ds (cs.take k) sd).2.2 = 0 → ∀ u es, TellsM (runR t ds (cs.take k) sd).1 u es → (runR t ds cs sd).2.2 = (runR u es (cs.drop k) sd).2.2 ∧ (runR t ds cs sd).2.1 = k + (runR u es (cs.drop k) sd).2.1 ∧ ∀ w', TreeD w' u es → SameV (runR t ds cs sd).1 (runR u es (cs.drop k) sd).1) := by
  by_cases hl : looseE t = 0
  · have e : ∀ cs, runR t ds cs sd = runG sd cs (openM t ds) 0 := fun cs => by unfold runR; rw [if_pos hl]
    have ha := runG_app sd (cs.drop k) (cs.take k) (openM t ds) 0
    rw [List.take_append_drop] at ha
    rw [e, e]
    refine ⟨fun h0 => by rw [ha, if_neg h0], fun h0 u es hu => ?_⟩
    have hall := runG_all sd (cs.take k) (openM t ds) 0 h0
    rw [List.length_take, Nat.min_eq_left hk, Nat.zero_add] at hall
    have hok := WOkP.run sd (cs.take k) (open_ok h hl) 0
    obtain ⟨hlu, hV⟩ := told_opened hok hu
    have eu : runR u es (cs.drop k) sd = runG sd (cs.drop k) (openM u es) 0 := by unfold runR; rw [if_pos hlu]
    rw [eu, ha, if_pos h0, hall]
    have hs := runG_shift sd k (cs.drop k) (runG sd (cs.take k) (openM t ds) 0).1 0
    rw [Nat.zero_add] at hs
    rw [hs]
    have key : ∀ w', TreeD w' u es → SameV (runG sd (cs.drop k) (runG sd (cs.take k) (openM t ds) 0).1 0).1 (runG sd (cs.drop k) (openM u es) 0).1 ∧ (runG sd (cs.drop k) (runG sd (cs.take k) (openM t ds) 0).1 0).2 = (runG sd (cs.drop k) (openM u es) 0).2 := fun w' hw => hV.symm.run sd (cs.drop k) hok (open_ok hw hlu) 0
    obtain ⟨b, w2, S, hT, rfl⟩ := hu
    have k2 := (key w2 hT.tree).2
    refine ⟨by show (runG sd (cs.drop k) (runG sd (cs.take k) (openM t ds) 0).1 0).2.2 = _; rw [k2], ?_, fun w' hw => (key w' hw).1⟩
    show (runG sd (cs.drop k) (runG sd (cs.take k) (openM t ds) 0).1 0).2.1 + k = _
    rw [k2]; omega
  · have e : ∀ cs, runR t ds cs sd = (openM zeroTV [], 0, looseE t) := fun cs => by unfold runR; rw [if_neg hl]
    rw [e, e]
    exact ⟨fun _ => rfl, fun h0 => absurd h0 hl⟩
end Go.Proofs.Ythmeffpickejkaa
