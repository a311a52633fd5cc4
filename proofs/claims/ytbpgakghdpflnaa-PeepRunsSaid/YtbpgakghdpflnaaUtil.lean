/- The small functions of the laws of chapter 18: num, long, SameIns, alive. -/
import Derived.Test.YtbpgakghdpflnaaPeepRun
namespace Go.Proofs.Ytbpgakghdpflnaa
open Go.RowKit

instance : DecidableEq Ins := fun _ _ => decidable_of_iff _ Ins.eqb_iff
theorem num_any (e : Int) (w : World) : Calls Try.prog 15 #[.int .i64 e] w fun r w' => r = .returned (.int .i64 e) ∧ Below w.heap.size w w' := by
  go_enter Try.func15, Try.ntmps15
  go_wp2
  go_ret
  exact ⟨rfl, Below.refl _ _⟩

/-- What stands at an index of a slice that reads as a list of instructions. -/
theorem Sl.ins {w : World} {B n : Nat} {A : Option Addr} {xs : List Ins} (h : Sl w B 5 A n (insL xs)) (hn : xs.length = n) {k : Nat} (hk : k < n) : ∃ b o x, A = some ⟨b, o, none⟩ ∧ b < B ∧ xs[k]? = some x ∧ x.at w b (o + k * 5) := by
  obtain ⟨b, o, rfl, hb, hrow⟩ := h.2 (by omega)
  obtain ⟨x, hx⟩ : ∃ x, xs[k]? = some x := ⟨xs[k]'(by omega), List.getElem?_eq_getElem _⟩
  exact ⟨b, o, x, rfl, hb, hx, hrow.ins hx⟩

/-- What long adds up. -/
def longSum : List Ins → Int → Int
  | [], s => s
  | x :: t, s => if s ≤ 60000 then longSum t (wrap64 (wrap64 (wrap64 (s + 1) + x.path.size) + x.dst.size)) else s
def longB (xs : List Ins) : Bool := decide (60000 < longSum xs 0) || decide (400 < (xs.length : Int))
theorem longB_le {xs : List Ins} (h : longB xs = false) : xs.length ≤ 400 := by
  simp only [longB, Bool.or_eq_false_iff, decide_eq_false_iff_not] at h
  omega
theorem drop_at {α : Type} {l : List α} {k : Nat} {x : α} (h : l[k]? = some x) : l.drop k = x :: l.drop (k + 1) := by
  obtain ⟨hlt, he⟩ := List.getElem?_eq_some_iff.1 h
  rw [List.drop_eq_getElem_cons hlt, he]
theorem longSum_step {xs : List Ins} {k : Nat} {x : Ins} {s : Int} (hx : xs[k]? = some x) (hs : s ≤ 60000) : longSum (xs.drop k) s = longSum (xs.drop (k + 1)) (wrap64 (wrap64 (wrap64 (s + 1) + x.path.size) + x.dst.size)) := by
  rw [drop_at hx, longSum, if_pos hs]
theorem longSum_stop {xs : List Ins} {k : Nat} {s : Int} (h : ¬ s ≤ 60000 ∨ xs.length ≤ k) : longSum (xs.drop k) s = s := by
  rcases Nat.lt_or_ge k xs.length with hk | hk
  · rw [List.drop_eq_getElem_cons hk, longSum, if_neg (by omega)]
  · rw [List.drop_of_length_le hk]; rfl
set_option maxHeartbeats 2000000 in
theorem long_any (xs : List Ins) (A : Option Addr) (n c : Nat) (w : World) (hA : Sl w w.heap.size 5 A n (insL xs)) (hn : xs.length = n) (hcap : n ≤ maxLen) :
    Calls Try.prog 11 #[.slice A n c] w fun e w' => e = .returned (.bool (longB xs)) ∧ Below w.heap.size w w' := by
  unfold maxLen at hcap
  have Hn := Lib.hid hn; clear hn
  have HA := Lib.hid hA; clear hA
  go_enter Try.func11, Try.ntmps11
  go_wp2
  go_loopw [3, 4] (fun v i wr => ∃ (s : Int) (k : Nat), k ≤ n ∧ i = .int .i64 k ∧ v = .int .i64 s ∧ longSum xs 0 = longSum (xs.drop k) s ∧ Below w.heap.size w wr) (fun _ i _ => n - (intOf i).toNat)
  case atStart => exact ⟨0, 0, Nat.zero_le _, rfl, rfl, rfl, Below.refl _ _⟩
  case round =>
    obtain ⟨s, k, hk, rfl, rfl, hsum, hb⟩ := hrel
    have Hsum := Lib.hid hsum; clear hsum
    by_cases hlt : k < n
    · have hki : (k : Int) < n := by omega
      obtain ⟨b, o, x, rfl, hbl, hx, x0, x1, x2, x3, x4⟩ := (HA.out.keep (Nat.le_refl _) hb.block).ins Hn.out hlt
      have hbr : b < wr.heap.size := by have := hb.size; omega
      have Hx := Lib.hid hx; clear hx
      by_cases hs : s ≤ 60000
      · go_upto_region 5 with (fail)
        refine wp_region_ordB (none) [(0, true), (1, true), (2, true), (3, true), (4, true), (5, true), (6, true), (7, true), (8, true), (9, true), (10, true), (11, true), (12, true), (13, true), (14, true), (15, true), (16, true)] (by kernel_rfl) (by kernel_rfl) fun hG0 => ?_
        repeat (first
          | (refine ord_skipB rfl (by rfl) ?_; simp only [Act.put, List.setIfInBounds_toArray, List.set_cons_zero, List.set_cons_succ])
          | (refine ord_qE rfl (by rfl) ?_; apply Exists.intro; refine ⟨fun w' hc' => ?_, ?_⟩; (focus (go_simp; (try go_bits); (try simp only [↓IntWalk.iteOmega]); with_reducible rfl)); simp only [Act.put, List.setIfInBounds_toArray, List.set_cons_zero, List.set_cons_succ]))
        refine ord_end ?_
        go_wp2
        go_roundw
        case rel => exact ⟨_, k + 1, by omega, by go_num, rfl, Hsum.out.trans (longSum_step Hx.out hs), hb.trans (below_grown hG0 hb.size (fun g e => by cases e))⟩
        case measure => simp [intOf]; omega
      · have hfin := Hsum.out.trans (longSum_stop (.inl hs))
        have Hfin := Lib.hid hfin; clear hfin
        go_wp2
        go_ret
        refine ⟨?_, hb⟩
        simp [longB, Hfin.out]
        omega
    · obtain rfl : k = n := by omega
      have hfin := Hsum.out.trans (longSum_stop (.inr (by rw [Hn.out]; exact Nat.le_refl _)))
      have Hfin := Lib.hid hfin; clear hfin
      by_cases hs : s ≤ 60000
      · go_wp2
        go_ret
        refine ⟨?_, hb⟩
        simp [longB, Hfin.out, Hn.out] <;> omega
      · go_wp2
        go_ret
        refine ⟨?_, hb⟩
        simp [longB, Hfin.out, Hn.out] <;> omega

set_option maxHeartbeats 2000000 in
theorem same_any (xs ys : List Ins) (A A' : Option Addr) (n n' c c' : Nat) (w : World) (hA : Sl w w.heap.size 5 A n (insL xs)) (hn : xs.length = n) (hA' : Sl w w.heap.size 5 A' n' (insL ys)) (hn' : ys.length = n') (hcap : n ≤ maxLen) :
    Calls Try.prog 13 #[.slice A n c, .slice A' n' c'] w fun e w' => e = .returned (.bool (decide (xs = ys))) ∧ Below w.heap.size w w' := by
  unfold maxLen at hcap
  have Hn := Lib.hid hn; clear hn
  have HA := Lib.hid hA; clear hA
  have Hn' := Lib.hid hn'; clear hn'
  have HA' := Lib.hid hA'; clear hA'
  have hg := Try.eqGuardType26
  go_enter Try.func13, Try.ntmps13
  by_cases hne : n = n'
  · subst hne
    go_wp2
    go_loopw [5] (fun i wr => ∃ k : Nat, k ≤ n ∧ i = .int .i64 k ∧ (∀ j, j < k → xs[j]? = ys[j]?) ∧ Below w.heap.size w wr) (fun i _ => n - (intOf i).toNat)
    case atStart => exact ⟨0, Nat.zero_le _, rfl, fun j hj => by omega, Below.refl _ _⟩
    case round =>
      obtain ⟨k, hk, rfl, hj, hb⟩ := hrel
      have Hj := Lib.hid hj; clear hj
      by_cases hlt : k < n
      · have hki : (k : Int) < n := by omega
        obtain ⟨b, o, x, rfl, hbl, hx, x0, x1, x2, x3, x4⟩ := (HA.out.keep (Nat.le_refl _) hb.block).ins Hn.out hlt
        obtain ⟨b', o', y, rfl, hbl', hy, y0, y1, y2, y3, y4⟩ := (HA'.out.keep (Nat.le_refl _) hb.block).ins Hn'.out hlt
        have Hx := Lib.hid hx; clear hx
        have Hy := Lib.hid hy; clear hy
        have hbr : b < wr.heap.size := by have := hb.size; omega
        have hbr' : b' < wr.heap.size := by have := hb.size; omega
        by_cases he : x = y
        · subst he
          have he := Ins.eqb_self x
          go_upto_region 6 with (fail)
          refine wp_region_ordB (none) [(0, true), (1, true), (2, true), (3, true), (4, true), (5, true), (6, true), (7, true), (8, true)] (by kernel_rfl) (by kernel_rfl) fun hG0 => ?_
          repeat (first
            | (refine ord_skipB rfl (by rfl) ?_; simp only [Act.put, List.setIfInBounds_toArray, List.set_cons_zero, List.set_cons_succ])
            | (refine ord_qE rfl (by rfl) ?_; apply Exists.intro; refine ⟨fun w' hc' => ?_, ?_⟩; (focus (go_simp; (try go_bits); (try simp only [↓IntWalk.iteOmega]); with_reducible rfl)); simp only [Act.put, List.setIfInBounds_toArray, List.set_cons_zero, List.set_cons_succ]))
          refine ord_end ?_
          go_wp2
          go_roundw
          case rel =>
            refine ⟨k + 1, by omega, by go_num, fun j hj => ?_, hb.trans (below_grown hG0 hb.size (fun g e => by cases e))⟩
            rcases Nat.lt_or_ge j k with h | h
            · exact Hj.out j h
            · obtain rfl : j = k := by omega
              rw [Hx.out, Hy.out]
          case measure => simp [intOf]; omega
        · have he' := Ins.eqb_ne he
          have He := Lib.hid he; clear he
          go_upto_region 6 with (fail)
          refine wp_region_ordB (none) [(0, true), (1, true), (2, true), (3, true), (4, true), (5, true), (6, true), (7, true), (8, true)] (by kernel_rfl) (by kernel_rfl) fun hG0 => ?_
          repeat (first
            | (refine ord_skipB rfl (by rfl) ?_; simp only [Act.put, List.setIfInBounds_toArray, List.set_cons_zero, List.set_cons_succ])
            | (refine ord_qE rfl (by rfl) ?_; apply Exists.intro; refine ⟨fun w' hc' => ?_, ?_⟩; (focus (go_simp; (try go_bits); (try simp only [↓IntWalk.iteOmega]); with_reducible rfl)); simp only [Act.put, List.setIfInBounds_toArray, List.set_cons_zero, List.set_cons_succ]))
          refine ord_end ?_
          go_wp2
          go_ret
          refine ⟨?_, hb.trans (below_grown hG0 hb.size (fun g e => by cases e))⟩
          have : xs ≠ ys := by rintro rfl; have h := Hx.out.symm.trans Hy.out; injection h with h; exact He.out h
          simp [this]
      · obtain rfl : k = n := by omega
        go_wp2
        go_ret
        refine ⟨?_, hb⟩
        have : xs = ys := List.ext_getElem? fun j => by
          rcases Nat.lt_or_ge j k with h | h
          · exact Hj.out j h
          · rw [List.getElem?_eq_none (by rw [Hn.out]; exact h), List.getElem?_eq_none (by rw [Hn'.out]; exact h)]
        simp [this]
  · have hni : ¬ (n : Int) = n' := by omega
    go_wp2
    go_ret
    refine ⟨?_, Below.refl _ _⟩
    have : xs ≠ ys := by rintro rfl; exact hne (Hn.out.symm.trans Hn'.out)
    simp [this]

end Go.Proofs.Ytbpgakghdpflnaa
