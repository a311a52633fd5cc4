/- Package shuntlaw7's small functions: num, Much, heavy, alive; shuntref7.HasMode, HasTo. -/
import Derived.Test.YthmeffpickejkaaGreatMuch7
import Derived.Test.YthmeffpickejkaaGreatDoInv
import Derived.Test.YthmeffpickejkaaGreatExact
import Derived.Test.YthmeffpickejkaaGreatBig
namespace Go.Proofs.YthmeffpickejkaaGreat
open Go.RowKit

/-- The contents of a tree that was told. -/
def dsOf (M : PW) (S : List Node) : List ByteArray := (idsL S).map fun i => (M.F i).2
theorem ToldAs.tree {M : PW} {base : Nat} {w : World} {S : List Node} {u : TV} (h : ToldAs M base w S u) : TreeD w u (dsOf M S) := by
  have hm : ∀ {e sz n c : Nat} {A : Option Addr} {L : List Value}, w.ownsRow base e sz (.slice A n c) n L → n ≤ 9223372036854775807 := fun {e sz n c A L} h => by
    rcases h.2 with ⟨_, h0⟩ | ⟨g, cap, cur, hv, hg, hh, hnc, hcm, hcs, ht⟩
    · omega
    · unfold maxLen at hcm; omega
  have hl : (dsOf M S).length = u.files.length := by rw [dsOf, List.length_map, h.fl, h.fn]
  refine ⟨⟨by rw [h.nodes, List.length_map, h.nn], h.fl, Sl.of_own h.own, Sl.of_own h.ownF, hm h.own, hm h.ownF⟩, ⟨hl, fun k x d hx hd => ?_⟩⟩
  have hr := h.rows.row k x d hx hd
  exact ⟨hr.1.symm, Sl.of_own hr.2⟩
theorem rises_eq {S S' l : List Node} (h : S.Perm l) (h' : S'.Perm l) (hr : Rises S) (hr' : Rises S') : S = S' :=
  (h.trans h'.symm).eq_of_pairwise (fun _ _ _ _ h1 h2 => absurd h1 (List.lt_asymm h2)) hr hr'
/-- Two tellings of one world. -/
theorem told_same {M : PW} {b1 b2 : Nat} {w1 w2 : World} {S1 S2 : List Node} {u v : TV} (h : ToldAs M b1 w1 S1 u) (h' : ToldAs M b2 w2 S2 v) : S1 = S2 ∧ exactB u v (dsOf M S1) (dsOf M S2) = true := by
  have e := rises_eq h.perm h'.perm h.rises h'.rises
  subst e
  refine ⟨rfl, ?_⟩
  simp [exactB, h.nodes, h'.nodes, h.modes, h'.modes]

theorem num7 (x : Int) (w : World) : Calls Tryz.prog 11 #[.int .i64 x] w fun e w' => e = .returned (.int .i64 x) ∧ w' = w := by
  go_enter Tryz.func11, Tryz.ntmps11
  go_wp2
  go_ret
  exact ⟨rfl, rfl⟩
theorem hasMode7 (x : Int) (w : World) : Calls Tryz.prog 63 #[.int .i64 x] w fun e w' => e = .returned (.bool (modeB x)) ∧ w' = w := by
  have hx : modeB x = (x == 1 || (x == 6 || (x == 7 || x == 8))) := by
    rw [Bool.eq_iff_iff]; simp [modeB]
  by_cases h1 : x = 1
  · subst h1
    go_enter Tryz.func63, Tryz.ntmps63
    go_wp2
    go_ret
    exact ⟨rfl, rfl⟩
  · have e1 : (x == 1) = false := beq_eq_false_iff_ne.2 h1
    rw [e1, Bool.false_or] at hx
    by_cases h2 : x = 6
    · subst h2
      go_enter Tryz.func63, Tryz.ntmps63
      go_wp2
      go_ret
      exact ⟨rfl, rfl⟩
    · have e2 : (x == 6) = false := beq_eq_false_iff_ne.2 h2
      rw [e2, Bool.false_or] at hx
      by_cases h3 : x = 7
      · subst h3
        go_enter Tryz.func63, Tryz.ntmps63
        go_wp2
        go_ret
        exact ⟨rfl, rfl⟩
      · have e3 : (x == 7) = false := beq_eq_false_iff_ne.2 h3
        rw [e3, Bool.false_or] at hx
        clear h1 h2 h3
        have HX := Lib.hid hx; clear hx
        go_enter Tryz.func63, Tryz.ntmps63
        go_wp2
        go_ret
        exact ⟨by rw [HX.out]; rfl, rfl⟩
theorem hasTo7 (x : Int) (w : World) : Calls Tryz.prog 42 #[.int .i64 x] w fun e w' => e = .returned (.bool (toB x)) ∧ w' = w := by
  have hx : toB x = (x == 3 || (x == 4 || x == 7)) := by
    rw [Bool.eq_iff_iff]; simp [toB]
  by_cases h1 : x = 3
  · subst h1
    go_enter Tryz.func42, Tryz.ntmps42
    go_wp2
    go_ret
    exact ⟨rfl, rfl⟩
  · have e1 : (x == 3) = false := beq_eq_false_iff_ne.2 h1
    rw [e1, Bool.false_or] at hx
    by_cases h2 : x = 4
    · subst h2
      go_enter Tryz.func42, Tryz.ntmps42
      go_wp2
      go_ret
      exact ⟨rfl, rfl⟩
    · have e2 : (x == 4) = false := beq_eq_false_iff_ne.2 h2
      rw [e2, Bool.false_or] at hx
      clear h1 h2
      have HX := Lib.hid hx; clear hx
      go_enter Tryz.func42, Tryz.ntmps42
      go_wp2
      go_ret
      exact ⟨by rw [HX.out]; rfl, rfl⟩
def HeavyRes (t : TV) (n : Nat) (w : World) (e : Ending) (w' : World) : Prop := ∃ b : Bool, e = .returned (.bool b) ∧ (b = false → t.nn ≤ 300 ∧ t.fn ≤ 300 ∧ n ≤ 60) ∧ Below w.heap.size w w'
theorem zeroTV_at (w : World) : TreeD w zeroTV [] := ⟨⟨rfl, rfl, ⟨rfl, fun h => absurd h (by decide)⟩, ⟨rfl, fun h => absurd h (by decide)⟩, by decide, by decide⟩, ⟨rfl, fun k x d h _ => (by simp [zeroTV] at h)⟩⟩
def aCmd : Cmd := ⟨1, ⟨#[97]⟩, ByteArray.empty, 493, 0, by decide, by decide⟩
theorem alive_do : DoE zeroTV [] aCmd [] = 0 ∧ (doM (openM zeroTV []) aCmd []).nodes = [⟨⟨#[97]⟩, -1, 493, by decide⟩] := by
  constructor <;> kernel_rfl
theorem alive_cells {M : PW} {base : Nat} {w : World} {S : List Node} {u : TV} (h : ToldAs M base w S u) (hn : M.nodes = [⟨⟨#[97]⟩, -1, 493, by decide⟩]) :
    ∃ b o, u.NA = some ⟨b, o, none⟩ ∧ u.nn = 1 ∧ ∀ w', Below w.heap.size w w' → w'.cell? ⟨b, o, none⟩ = some (.string ⟨#[97]⟩) ∧ w'.cell? ⟨b, o + 1, none⟩ = some (.int .i64 (-1)) ∧ w'.cell? ⟨b, o + 2, none⟩ = some (.int .i64 493) := by
  have hS : S = [⟨⟨#[97]⟩, -1, 493, by decide⟩] := List.perm_singleton.1 (hn ▸ h.perm)
  have hu : u.nodes = [⟨⟨#[97]⟩, -1, 493, by decide⟩] := by rw [h.nodes, hS]; kernel_rfl
  have h1 : u.nn = 1 := by rw [h.nn, hS]; rfl
  obtain ⟨b, o, hA, _, _⟩ := (Sl.of_own h.own).2 (by omega)
  refine ⟨b, o, hA, h1, fun w' hb => ?_⟩
  obtain ⟨b', o', x, hA', _, hx, hc⟩ := ((Sl.of_own h.own).keep hb.size hb.block).get Node.len (by rw [hu, h1]; rfl) (show 0 < u.nn by omega)
  obtain ⟨rfl, rfl⟩ : b = b' ∧ o = o' := by rw [hA] at hA'; injection hA' with e; injection e with e1 e2; exact ⟨e1, e2⟩
  rw [hu] at hx
  obtain rfl := Option.some.inj hx
  simp only [Nat.zero_mul, Nat.add_zero] at hc
  exact ⟨hc 0 _ rfl, hc 1 _ rfl, hc 2 _ rfl⟩
theorem alive_eq : nodeEq ⟨#[97]⟩ ⟨#[97]⟩ (-1) 493 (-1) 493 = true := by kernel_rfl
theorem alive7 (w : World) : Calls Tryz.prog 4 #[] w fun e w' => e = .returned (.bool true) ∧ Below w.heap.size w w' := by
  have hcall := Do_any zeroTV [] aCmd (by decide) none 0 0 [] [] w (zeroTV_at w) (StockAt.nil w)
  obtain ⟨E, hE⟩ : ∃ E, DoE zeroTV [] aCmd [] = E := ⟨_, rfl⟩
  obtain ⟨M, hM⟩ : ∃ M, doM (openM zeroTV []) aCmd [] = M := ⟨_, rfl⟩
  have h0 := alive_do
  rw [hE, hM] at hcall h0
  obtain ⟨rfl, hn⟩ := h0
  have Hc := Lib.hid hcall
  have Hn := Lib.hid hn
  clear hcall hE hM hn
  go_enter Tryz.func4, Tryz.ntmps4
  go_upto_region 1 with (fail)
  have HC : Hid (Calls Tryz.prog 16 #[.agg #[.slice none 0 0, .slice none 0 0], .agg #[.int .i64 1, .string ⟨#[97]⟩, .string ByteArray.empty, .int .i64 493, .int .i64 0], .slice none 0 0] w (DoRes 0 M w)) := Lib.hid Hc.out
  clear Hc
  go_upto_region 2 with (go_at_call 16; refine HC.out.mono ?_; rintro e w1 ⟨u, rfl, _, hu, hb1⟩; obtain ⟨S, hT⟩ := hu rfl; obtain ⟨b, o, hA, hn1, hk⟩ := alive_cells hT Hn.out; obtain ⟨k0, k1, k2⟩ := hk (w1.alloc (.cells #[.slice (some ⟨b, o, none⟩) 1 u.nc, .slice u.FA u.fn u.fc] 25)) ((Below.refl _ _).alloc (Nat.le_refl _) _); clear hk hT hu; unfold TV.val; rw [hA, hn1])
  go_wp2_with (go_at_call 11; refine (num7 _ _).mono ?_; rintro e w2 ⟨rfl, rfl⟩)
  go_ret
  exact ⟨by rw [alive_eq]; rfl, hb1.alloc hb1.size _⟩
/-- Fields that an instruction does not have are not looked at. -/
theorem ignores (M : PW) (c d : Cmd) (ds : List ByteArray) (ho : c.op = d.op) (hp : c.path = d.path) (hd : toB c.op = true → c.dst = d.dst) (hm : modeB c.op = true → c.mode = d.mode) (hr : c.op = 6 → c.ref = d.ref) :
    doE M c ds = doE M d ds ∧ doM M c ds = doM M d ds := by
  obtain ⟨op, p, q, m, r, h1, h2⟩ := c
  obtain ⟨op', p', q', m', r', h1', h2'⟩ := d
  simp only at ho hp hd hm hr
  subst ho hp
  have hE : doE M ⟨op, p, q, m, r, h1, h2⟩ ds = doE M ⟨op, p, q', m', r', h1', h2'⟩ ds := by
    by_cases hi : isOp op = false
    · simp [doE, hi]
    · have h9 : op = 1 ∨ op = 2 ∨ op = 3 ∨ op = 4 ∨ op = 5 ∨ op = 6 ∨ op = 7 ∨ op = 8 ∨ op = 9 := by
        simp [isOp] at hi; omega
      rcases h9 with rfl | rfl | rfl | rfl | rfl | rfl | rfl | rfl | rfl <;> simp [toB, modeB] at hd hm hr <;> (try subst hd) <;> (try subst hm) <;> (try subst hr) <;> simp [doE, opE, firstE, fullE, toB, modeB, isOp, growB]
  refine ⟨hE, ?_⟩
  unfold doM
  rw [hE]
  by_cases hc : doE M ⟨op, p, q', m', r', h1', h2'⟩ ds = 0 ∧ op ≠ 9
  · rw [if_pos hc, if_pos hc]
    have hi : isOp op = true := by
      rcases Bool.eq_false_or_eq_true (isOp op) with h | h
      · exact h
      · have := hc.1
        rw [doE, if_pos h] at this
        exact absurd this (by decide)
    have h9 : op = 1 ∨ op = 2 ∨ op = 3 ∨ op = 4 ∨ op = 5 ∨ op = 6 ∨ op = 7 ∨ op = 8 := by
      have := hc.2
      simp [isOp] at hi; omega
    rcases h9 with rfl | rfl | rfl | rfl | rfl | rfl | rfl | rfl <;> simp [toB, modeB] at hd hm hr <;> (try subst hd) <;> (try subst hm) <;> (try subst hr) <;> simp [opM, refData]
  · rw [if_neg hc, if_neg hc]
end Go.Proofs.YthmeffpickejkaaGreat
