/- slices.rotateCmpFunc at nodes: two parts that stand side by side change places. -/
import Derived.Test.YtdjlchbgdehccaaStable2
namespace Go.Proofs.Ytdjlchbgdehccaa
open Go.RowKit

/-- What a swap of blocks must bring about. -/
def Sorted1 (w0 : World) (base : Nat) (A : Option Addr) (n c : Nat) (l : List Node) (e : Ending) (W' : World) : Prop := e = .returned (.tuple #[]) ∧ SortSt w0 base A n c l W'
/-- While the parts change places: what stands where. -/
structure RotSt (w0 : World) (base : Nat) (A : Option Addr) (n c : Nat) (A0 P X Y S B R : List Node) (W : World) : Prop where
  st : SortSt w0 base A n c (A0 ++ P ++ X ++ Y ++ S ++ B) W
  goal : A0 ++ P ++ Y ++ X ++ S ++ B = R
set_option maxRecDepth 100000 in
set_option maxHeartbeats 4000000 in
theorem rotate_any (w0 : World) (base n c : Nat) (A : Option Addr) (A0 X Y B : List Node) (a m b : Nat) (cv : Value) (W : World) (ha : A0.length = a) (hm : m = a + X.length) (hb : b = m + Y.length) (hx : 0 < X.length) (hy : 0 < Y.length) (hn : n ≤ 1000000) (h : SortSt w0 base A n c (A0 ++ X ++ Y ++ B) W) :
    Calls Try.prog 109 #[.slice A n c, .int .i64 a, .int .i64 m, .int .i64 b, cv] W (Sorted1 w0 base A n c (A0 ++ Y ++ X ++ B)) := by
  have hlen := h.len
  simp only [List.length_append] at hlen
  have hbn : b ≤ n := by omega
  obtain ⟨R, hR⟩ : ∃ R, A0 ++ Y ++ X ++ B = R := ⟨_, rfl⟩
  rw [hR]
  have h0 : RotSt w0 base A n c A0 [] X Y [] B R W := ⟨by simpa using h, by simpa using hR⟩
  have H0 := Lib.hid h0
  have wi : IntKind.i64.wrap ((m : Int) - a) = ((X.length : Nat) : Int) := by rw [IntKind.wrap_i64]; omega
  have wj : IntKind.i64.wrap ((b : Int) - m) = ((Y.length : Nat) : Int) := by rw [IntKind.wrap_i64]; omega
  obtain ⟨i0, hi0⟩ : ∃ i, X.length = i := ⟨_, rfl⟩
  obtain ⟨j0, hj0⟩ : ∃ j, Y.length = j := ⟨_, rfl⟩
  rw [hi0] at wi hx hm
  rw [hj0] at wj hy hb
  have HA := Lib.hid ha; have HI0 := Lib.hid hi0; have HJ0 := Lib.hid hj0
  have Hm := Lib.hid hm; have Hb := Lib.hid hb
  clear h h0 hR hlen ha hi0 hj0 hm hb
  have hmn : m ≤ n := by have := Hb.out; omega
  go_enter Try.func109, Try.ntmps109
  go_wp2
  go_loopw [10, 11] (fun vi vj wr => ∃ (i j : Nat) (P X' Y' S : List Node), vi = .int .i64 i ∧ vj = .int .i64 j ∧ 0 < i ∧ 0 < j ∧ X'.length = i ∧ Y'.length = j ∧ a + P.length + i = m ∧ m + j ≤ b ∧ RotSt w0 base A n c A0 P X' Y' S B R wr) (fun vi vj _ => (intOf vi).toNat + (intOf vj).toNat)
  case atStart => exact ⟨i0, j0, [], X, Y, [], rfl, rfl, hx, hy, HI0.out, HJ0.out, by have := Hm.out; simp; omega, by have := Hb.out; omega, H0.out⟩
  case round =>
    clear H0 wi wj
    obtain ⟨i, j, P, X', Y', S, rfl, rfl, hi, hj, hX, hY, hP, hB, hr⟩ := hrel
    obtain ⟨p, hp⟩ : ∃ p, a + P.length = p := ⟨_, rfl⟩
    have hAP : (A0 ++ P).length = p := by rw [List.length_append, HA.out]; exact hp
    rw [hp] at hP
    have wp : IntKind.i64.wrap ((m : Int) - i) = (p : Int) := by rw [IntKind.wrap_i64]; omega
    have HX := Lib.hid hX; have HY := Lib.hid hY; have Hr := Lib.hid hr; have HAP := Lib.hid hAP; have HP := Lib.hid hP; have Hp := Lib.hid hp
    clear hX hY hr hAP hp
    by_cases hij : i = j
    · subst hij
      have hs := swapRange_any w0 base n c A (A0 ++ P) X' [] Y' (S ++ B) i p m cv wr HX.out HY.out HAP.out (by rw [List.length_nil]; omega) hn (by have := Hr.out.st; simpa using this)
      have HS := Lib.hid hs
      clear hs
      have e1 : ((i : Int) == (i : Int)) = true := by simp
      have e2 : ((i : Int) != (i : Int)) = false := by simp
      go_wp2_with (go_at_call 111; refine HS.out.mono ?_; rintro e w1 ⟨rfl, hs1⟩)
      go_end0
      exact ⟨rfl, by rw [← Hr.out.goal]; simpa using hs1⟩
    · have e1 : ((i : Int) == (j : Int)) = false := beq_eq_false_iff_ne.2 (by omega)
      have e2 : ((i : Int) != (j : Int)) = true := bne_iff_ne.2 (by omega)
      by_cases hgt : j < i
      · have hgi : (j : Int) < (i : Int) := by omega
        have hx1 : (X'.take j).length = j := by rw [List.length_take, HX.out]; omega
        have hx2 : (X'.drop j).length = i - j := by rw [List.length_drop, HX.out]
        have hXX : X'.take j ++ X'.drop j = X' := List.take_append_drop _ _
        have hs := swapRange_any w0 base n c A (A0 ++ P) (X'.take j) (X'.drop j) Y' (S ++ B) j p m cv wr hx1 HY.out HAP.out (by rw [hx2]; omega) hn (by have := Hr.out.st; rw [show A0 ++ P ++ X'.take j ++ X'.drop j ++ Y' ++ (S ++ B) = A0 ++ P ++ (X'.take j ++ X'.drop j) ++ Y' ++ S ++ B by simp, hXX]; exact this)
        have hnew : ∀ W', SortSt w0 base A n c (A0 ++ P ++ Y' ++ X'.drop j ++ X'.take j ++ (S ++ B)) W' → RotSt w0 base A n c A0 (P ++ Y') (X'.drop j) (X'.take j) S B R W' := fun W' h => ⟨by simpa using h, by
          rw [← Hr.out.goal]
          conv => rhs; rw [← hXX]
          simp⟩
        have wd : IntKind.i64.wrap ((i : Int) - j) = ((i - j : Nat) : Int) := by rw [IntKind.wrap_i64]; omega
        obtain ⟨d, hd⟩ : ∃ d, i - j = d := ⟨_, rfl⟩
        rw [hd] at wd hx2
        have HS := Lib.hid hs; have HN := Lib.hid hnew; have HX1 := Lib.hid hx1; have HX2 := Lib.hid hx2
        clear hs hnew hx1 hx2 hXX
        go_wp2_with (go_at_call 111; refine HS.out.mono ?_; rintro e w1 ⟨rfl, hs1⟩)
        go_roundw
        case rel => exact ⟨d, j, P ++ Y', X'.drop j, X'.take j, S, rfl, rfl, by omega, hj, HX2.out, HX1.out, by have := HY.out; have := Hp.out; rw [List.length_append]; omega, hB, HN.out _ hs1⟩
        case measure => simp [intOf] <;> omega
      · have hgi : ¬ (j : Int) < (i : Int) := by omega
        have hy1 : (Y'.take (j - i)).length = j - i := by rw [List.length_take, HY.out]; omega
        have hy2 : (Y'.drop (j - i)).length = i := by rw [List.length_drop, HY.out]; omega
        have hYY : Y'.take (j - i) ++ Y'.drop (j - i) = Y' := List.take_append_drop _ _
        have hs := swapRange_any w0 base n c A (A0 ++ P) X' (Y'.take (j - i)) (Y'.drop (j - i)) (S ++ B) i p (m + j - i) cv wr HX.out hy2 HAP.out (by rw [hy1]; omega) hn (by have := Hr.out.st; rw [show A0 ++ P ++ X' ++ Y'.take (j - i) ++ Y'.drop (j - i) ++ (S ++ B) = A0 ++ P ++ X' ++ (Y'.take (j - i) ++ Y'.drop (j - i)) ++ S ++ B by simp, hYY]; exact this)
        have hnew : ∀ W', SortSt w0 base A n c (A0 ++ P ++ Y'.drop (j - i) ++ Y'.take (j - i) ++ X' ++ (S ++ B)) W' → RotSt w0 base A n c A0 P (Y'.drop (j - i)) (Y'.take (j - i)) (X' ++ S) B R W' := fun W' h => ⟨by simpa using h, by
          rw [← Hr.out.goal]
          conv => rhs; rw [← hYY]
          simp⟩
        have wd : IntKind.i64.wrap ((j : Int) - i) = ((j - i : Nat) : Int) := by rw [IntKind.wrap_i64]; omega
        have we : IntKind.i64.wrap ((m : Int) + j) = ((m + j : Nat) : Int) := by rw [IntKind.wrap_i64]; omega
        have wf : IntKind.i64.wrap (((m + j : Nat) : Int) - i) = ((m + j - i : Nat) : Int) := by rw [IntKind.wrap_i64]; omega
        obtain ⟨d, hd⟩ : ∃ d, j - i = d := ⟨_, rfl⟩
        obtain ⟨q, hq⟩ : ∃ q, m + j = q := ⟨_, rfl⟩
        rw [hq] at we wf hs
        obtain ⟨r, hr⟩ : ∃ r, q - i = r := ⟨_, rfl⟩
        rw [hr] at wf hs
        rw [hd] at wd hy1 hy2 hs hnew
        have HS := Lib.hid hs; have HN := Lib.hid hnew; have HY1 := Lib.hid hy1; have HY2 := Lib.hid hy2
        clear hs hnew hy1 hy2 hYY
        go_wp2_with (go_at_call 111; refine HS.out.mono ?_; rintro e w1 ⟨rfl, hs1⟩)
        go_roundw
        case rel => exact ⟨i, d, P, Y'.drop d, Y'.take d, X' ++ S, rfl, rfl, hi, by omega, HY2.out, HY1.out, by have := Hp.out; omega, by omega, HN.out _ hs1⟩
        case measure => simp [intOf] <;> omega
end Go.Proofs.Ytdjlchbgdehccaa
