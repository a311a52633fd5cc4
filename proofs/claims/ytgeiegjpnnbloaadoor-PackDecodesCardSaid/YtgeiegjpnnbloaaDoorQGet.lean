/- shuntref19.get. -/
import Derived.Test.YtgeiegjpnnbloaaDoorRdG
namespace Go.Proofs.YtgeiegjpnnbloaaDoor
open Go.ChangeShapes Go.WideShapes Go.ChangeAt Go.ChangeMaps Go.RowKit Go.Deep

theorem or_low (v x : Nat) (hx : x < 256) (hv : v < 16777216) : Go.bits .or .i64 ((v : Int) * 256) (x : Int) = (x + 256 * v : Nat) := by
  have hor : v * 256 ||| x = x + 256 * v := by
    have := Nat.two_pow_add_eq_or_of_lt (i := 8) (b := x) hx v
    rw [show (2 : Nat) ^ 8 * v = v * 256 by omega] at this
    rw [← this]
    omega
  have hi : ((v : Int) * 256) = ((v * 256 : Nat) : Int) := by omega
  rw [hi]
  obtain ⟨y, hy⟩ : ∃ y, v * 256 = y := ⟨_, rfl⟩
  rw [hy] at hor ⊢
  have e1 : (BitVec.ofInt 64 (x : Int)).toNat = x := by rw [BitVec.toNat_ofInt]; omega
  have e2 : (BitVec.ofInt 64 (y : Int)).toNat = y := by rw [BitVec.toNat_ofInt]; omega
  show IntKind.i64.wrap ((BitVec.ofInt 64 (y : Int) ||| BitVec.ofInt 64 (x : Int)).toNat : Nat) = _
  rw [BitVec.toNat_or, e1, e2, hor, IntKind.wrap_i64]
  omega
set_option maxRecDepth 100000 in
set_option maxHeartbeats 4000000 in
theorem rget_any (l : List UInt8) (A : Option Addr) (n c at_ k : Nat) (w : World) (hA : Sl w w.heap.size 1 A n (l.flatMap u8L)) (hn : l.length = n) (hm : n ≤ 1000000) (hk : at_ + k ≤ n) (hk4 : k ≤ 4) :
    Calls Tryd.prog 14 #[.slice A n c, .int .i64 at_, .int .i64 k] w fun e w' => e = .returned (.int .i64 (deN ((l.drop at_).take k) : Nat)) ∧ w' = w := by
  obtain ⟨L, hL⟩ : ∃ L, (l.drop at_).take k = L := ⟨_, rfl⟩
  have hLk : L.length = k := by rw [← hL, List.length_take, List.length_drop]; omega
  have hget : ∀ j, j < k → L[j]? = l[at_ + j]? := fun j hj => by rw [← hL, List.getElem?_take_of_lt hj, List.getElem?_drop]
  rw [hL]
  have HA := Lib.hid hA; have HN := Lib.hid hn; have HG := Lib.hid hget; have HLk := Lib.hid hLk
  clear hA hn hget hL hLk
  go_enter Tryd.func14, Tryd.ntmps14
  go_wp2
  go_loopw [7, 8] (fun v i wr => ∃ m : Nat, m ≤ k ∧ i = .int .i64 ((m : Int) - 1) ∧ v = .int .i64 (deN (L.drop m) : Nat) ∧ wr = w) (fun _ i _ => ((intOf i) + 1).toNat)
  case atStart => exact ⟨k, Nat.le_refl _, rfl, by rw [List.drop_eq_nil_of_le (by rw [HLk.out]; exact Nat.le_refl _)]; rfl, rfl⟩
  case round =>
  obtain ⟨m, hmk, rfl, rfl, rfl⟩ := hrel
  cases m with
  | zero =>
    go_wp2
    go_ret
    exact ⟨rfl, rfl⟩
  | succ m =>
    have hmi : (((m + 1 : Nat) : Int) - 1) = (m : Int) := by omega
    rw [hmi]
    obtain ⟨tb, to', x, rfl, htb, hx, hcx⟩ := HA.out.get (f := u8L) (fun _ => rfl) HN.out (show at_ + m < n by omega)
    have a0 := hcx 0 _ rfl
    simp only [Nat.add_zero, Nat.mul_one] at a0
    have hxl : x.toNat < 256 := x.toNat_lt
    have hLm : L[m]? = some x := by rw [HG.out m (by omega), hx]
    have hnext : deN (L.drop m) = x.toNat + 256 * deN (L.drop (m + 1)) := by
      rw [List.drop_eq_getElem_cons (by rw [HLk.out]; omega)]
      have : L[m]'(by rw [HLk.out]; omega) = x := by
        have := List.getElem?_eq_getElem (l := L) (i := m) (by rw [HLk.out]; omega)
        rw [hLm] at this
        injection this with this
        exact this.symm
      rw [this]; rfl
    have hsm : deN (L.drop (m + 1)) < 16777216 := by
      have h1 := deN_lt (L.drop (m + 1))
      rw [List.length_drop, HLk.out] at h1
      have h2 : (256 : Nat) ^ (k - (m + 1)) ≤ 256 ^ 3 := Nat.pow_le_pow_right (by omega) (by omega)
      omega
    obtain ⟨v, hv⟩ : ∃ v, deN (L.drop (m + 1)) = v := ⟨_, rfl⟩
    obtain ⟨xn, hxn⟩ : ∃ v, x.toNat = v := ⟨_, rfl⟩
    rw [hv] at hnext hsm ⊢
    rw [hxn] at a0 hxl hnext
    have hor := or_low v xn hxl hsm
    have HNx := Lib.hid hnext
    have hnn : (at_ : Int) + m < n := by omega
    clear hcx hx hxn hv hLm hnext hmi
    go_wp2
    go_roundw
    case rel => exact ⟨m, by omega, by first | rfl | (congr 1; unfold wrap64; omega), by rw [HNx.out]; congr 1, trivial⟩
    case measure => (simp [intOf]); try omega
end Go.Proofs.YtgeiegjpnnbloaaDoor
