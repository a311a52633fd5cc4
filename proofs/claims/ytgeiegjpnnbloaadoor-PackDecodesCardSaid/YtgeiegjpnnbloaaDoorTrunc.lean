/- pack.part: a part of a peak. -/
import Derived.Test.YtgeiegjpnnbloaaDoorNum0
import Derived.Laws.Cover3
import Derived.WalkLawsBesides
import Derived.Shelf.RegionOpen
import Derived.WalkKit
import Derived.OwnWalkIn
import Derived.TacticsInMore
namespace Go.Proofs.YtgeiegjpnnbloaaDoor
open Go.RowKit

theorem F_trunc {a : Int} (ha : a.natAbs < 2 ^ 53) : Ieee.double.write ((Ieee.double.read (F a)).integral .zero) = F a := by
  obtain ⟨k, hk, ea⟩ := F_read (n := a) ha
  have e2 : (- -(k : Int)).toNat = k := by omega
  have hc : Ieee.Toward.zero.cut (decide (a < 0)) (a.natAbs * 2 ^ k) k = a.natAbs := by
    by_cases h0 : a.natAbs = 0
    · rw [h0]; simp [Ieee.Toward.cut]
    · exact cut_exact _ _ _ (by rw [log2_mul_pow _ _ h0]; omega) _
  have h0 : (-(k : Int)).toNat = 0 := by omega
  rw [ea]
  have e3 : (Ieee.Datum.number (decide (a < 0)) (a.natAbs * 2 ^ k) (-(k : Int))).integral .zero = .number (decide (a < 0)) a.natAbs 0 := by
    simp only [Ieee.Datum.integral, h0, e2, Nat.shiftLeft_zero, hc]
  rw [e3]
  have := F_write (n := a) (k := 0) ha
  simpa using this
theorem outer_match {α : Type} (h1 : (x : Nat) → α) (h2 : (x : Array Value) → α) (x : Nat) : Extern.MathFloor.toIntegral.match_2 (fun _ => α) #[.float .f64 x] h1 h2 = h1 x := rfl
theorem run_trunc (a : Int) (ha : a.natAbs < 2 ^ 53) (nm : String) (w : World) : (Extern.MathFloor.toIntegral nm .zero #[.float .f64 (F a)]).run Tryd.prog w = .ok (.float .f64 (F a)) w := by
  have h := F_trunc ha
  obtain ⟨k, hk, ea⟩ := F_read (n := a) ha
  unfold Extern.MathFloor.toIntegral
  have e1 : FloatKind.f64.decode (F a) = .number (decide (a < 0)) (a.natAbs * 2 ^ k) (-(k : Int)) := ea
  rw [outer_match, e1]
  rw [ea] at h
  show Result.ok (Value.float .f64 (FloatKind.f64.encode _)) w = _
  have e2 : FloatKind.f64.encode ((Ieee.Datum.number (decide (a < 0)) (a.natAbs * 2 ^ k) (-(k : Int))).integral .zero) = F a := h
  rw [e2]
set_option maxHeartbeats 1000000 in
theorem Trunc_any (a : Int) (ha : a.natAbs < 2 ^ 53) (w : World) : Calls Tryd.prog 41 #[.float .f64 (F a)] w fun e w' => e = .returned (.float .f64 (F a)) ∧ w' = w := by
  have H := Lib.hid (run_trunc a ha "math.archTrunc" w)
  clear ha
  obtain ⟨x, hx⟩ : ∃ x, F a = x := ⟨_, rfl⟩
  rw [hx] at H ⊢
  clear hx
  go_enter Tryd.func41, Tryd.ntmps41
  go_wp2
  rw [run_callFunc_extern Tryd.func48 (by kernel_rfl) (by kernel_rfl) (by kernel_rfl) (e := Extern.MathFloor.toIntegral "math.archTrunc" .zero) (by kernel_rfl), H.out]
  simp only [Result.andThen]
  rw [Oper.upon_value]
  go_wp2
  go_ret
  exact ⟨rfl, rfl⟩
/-- A part that can stand. -/
def okPart (a : Int) : Bool := decide (0 ≤ a) && decide (a ≤ 4294967295)
theorem F_max : F 4294967295 = 4751297606873776128 := by decide +kernel
theorem ord_lt {a b : Int} (ha : a.natAbs < 2 ^ 53) (hb : b.natAbs < 2 ^ 53) (h : a < b) : FloatKind.f64.format.order (F a) (F b) = some .lt := by rw [F_order ha hb, Int.compare_eq_lt.2 h]
theorem ord_gt {a b : Int} (ha : a.natAbs < 2 ^ 53) (hb : b.natAbs < 2 ^ 53) (h : b < a) : FloatKind.f64.format.order (F a) (F b) = some .gt := by rw [F_order ha hb, Int.compare_eq_gt.2 h]
theorem ord_eq {a : Int} (ha : a.natAbs < 2 ^ 53) : FloatKind.f64.format.order (F a) (F a) = some .eq := by rw [F_order ha ha]; simp
theorem ge_yes {a : Int} (ha : a.natAbs < 2 ^ 53) (h : 0 ≤ a) : FloatKind.f64.format.order (F a) 0 = some .gt ∨ FloatKind.f64.format.order (F a) 0 = some .eq := by
  rw [show (0 : Nat) = F 0 from F_zero.symm]
  rcases Int.lt_or_eq_of_le h with h | h
  · exact .inl (ord_gt ha (by decide) h)
  · subst h; exact .inr (ord_eq ha)
theorem le_yes {a : Int} (ha : a.natAbs < 2 ^ 53) (h : a ≤ 4294967295) : FloatKind.f64.format.order (F a) 4751297606873776128 = some .lt ∨ FloatKind.f64.format.order (F a) 4751297606873776128 = some .eq := by
  rw [← F_max]
  rcases Int.lt_or_eq_of_le h with h | h
  · exact .inl (ord_lt ha (by decide) h)
  · subst h; exact .inr (ord_eq ha)
set_option maxHeartbeats 1000000 in
theorem part_any (a : Int) (ha : a.natAbs < 2 ^ 53) (w : World) : Calls Tryd.prog 34 #[.float .f64 (F a)] w fun e w' => e = .returned (.bool (okPart a)) ∧ w' = w := by
  have HT := Lib.hid (fun w => Trunc_any a ha w)
  have e3 := ord_eq ha
  by_cases h0 : 0 ≤ a
  · have hg := ge_yes ha h0
    by_cases h1 : a ≤ 4294967295
    · have hl := le_yes ha h1
      have hr : okPart a = true := by unfold okPart; simp [h0, h1]
      rw [hr]
      clear hr
      obtain ⟨x, hx⟩ : ∃ x, F a = x := ⟨_, rfl⟩
      rw [hx] at HT hg hl e3 ⊢
      clear hx ha
      rcases hg with hg | hg <;> rcases hl with hl | hl
      all_goals
        go_enter Tryd.func34, Tryd.ntmps34
        go_wp2_with (go_at_call 41; refine (HT.out _).mono ?_; rintro e w1 ⟨rfl, hw⟩; rw [hw]; clear hw)
        go_ret
        exact ⟨by simp, rfl⟩
    · have hl := ord_gt ha (by decide) (show (4294967295 : Int) < a by omega)
      rw [F_max] at hl
      have hr : okPart a = false := by unfold okPart; simp [h1]
      rw [hr]
      clear hr e3
      obtain ⟨x, hx⟩ : ∃ x, F a = x := ⟨_, rfl⟩
      rw [hx] at HT hg hl ⊢
      clear hx ha
      rcases hg with hg | hg
      all_goals
        go_enter Tryd.func34, Tryd.ntmps34
        go_wp2_with (go_at_call 41; refine (HT.out _).mono ?_; rintro e w1 ⟨rfl, hw⟩; rw [hw]; clear hw)
        go_ret
        exact ⟨by simp, rfl⟩
  · have hg := ord_lt ha (by decide) (show a < 0 by omega)
    rw [F_zero] at hg
    have hr : okPart a = false := by unfold okPart; simp [h0]
    rw [hr]
    clear hr e3
    obtain ⟨x, hx⟩ : ∃ x, F a = x := ⟨_, rfl⟩
    rw [hx] at HT hg ⊢
    clear hx ha
    go_enter Tryd.func34, Tryd.ntmps34
    go_wp2_with (go_at_call 41; refine (HT.out _).mono ?_; rintro e w1 ⟨rfl, hw⟩; rw [hw]; clear hw)
    go_ret
    exact ⟨by simp, rfl⟩
end Go.Proofs.YtgeiegjpnnbloaaDoor
