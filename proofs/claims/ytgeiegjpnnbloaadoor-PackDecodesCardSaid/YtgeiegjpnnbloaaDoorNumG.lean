/- pack.reader.number and ins in general. -/
import Derived.Test.YtgeiegjpnnbloaaDoorRdG
import Derived.Test.YtgeiegjpnnbloaaDoorScriptW
namespace Go.Proofs.YtgeiegjpnnbloaaDoor
open Go.ChangeShapes Go.WideShapes Go.ChangeAt Go.ChangeMaps Go.RowKit Go.Deep

set_option maxRecDepth 100000 in
set_option maxHeartbeats 4000000 in
theorem number_any (g B : Nat) (s : RS) (k : Nat) (w : World) (h : RdG w g B s) (hk4 : k ≤ 4) :
    Calls Tryd.prog 22 #[.pointer (some ⟨g, 0, none⟩), .int .i64 k] w fun e w' => e = .returned (.int .i64 (s.num k : Nat)) ∧ RdG w' g B (s.go k) ∧ w.grownBy w' (some g) := by
  have HN := Lib.hid (next_any g B s k w h (by omega))
  obtain ⟨L, hL⟩ : ∃ L, s.get k = L := ⟨_, rfl⟩
  have hLk : L.length = k := by rw [← hL, RS.get_len]
  have hfin : s.num k = deN (L.take k) := by rw [List.take_of_length_le (by omega), ← hL]; rfl
  unfold NextRes at HN
  rw [hL] at HN
  have HFin := Lib.hid hfin; have HLk := Lib.hid hLk
  clear h hL hfin hLk
  go_enter Tryd.func22, Tryd.ntmps22
  go_wp2_with (go_at_call 23; refine HN.out.mono ?_; rintro e w1 ⟨A, rfl, hS, hr1, hg1⟩)
  have HR1 := Lib.hid hr1; have HG1 := Lib.hid hg1
  go_loopw [5, 12] (fun v i wr => ∃ j : Nat, j ≤ k ∧ i = .int .i64 j ∧ v = .int .i64 (deN (L.take j) : Nat) ∧ wr = w1) (fun _ i _ => k - (intOf i).toNat)
  case atStart => exact ⟨0, Nat.zero_le _, rfl, rfl, rfl⟩
  case round =>
  obtain ⟨j, hj, rfl, rfl, rfl⟩ := hrel
  by_cases hlt : j < k
  · have hji : (j : Int) < k := by omega
    obtain ⟨tb, to', x, rfl, htb, hx, hcx⟩ := hS.get (f := u8L) (fun _ => rfl) (xs := L) HLk.out hlt
    have a0 := hcx 0 _ rfl
    simp only [Nat.add_zero, Nat.mul_one] at a0
    have hxl : x.toNat < 256 := x.toNat_lt
    have hnext : deN (L.take (j + 1)) = deN (L.take j) + x.toNat * 256 ^ j := by
      have e : L.take (j + 1) = L.take j ++ [x] := take_snoc' hx
      rw [e, deN_snoc, List.length_take, Nat.min_eq_left (by rw [HLk.out]; omega)]
    have hsm : deN (L.take j) < 2 ^ (8 * j) := by
      have h1 := deN_lt (L.take j)
      rw [List.length_take, Nat.min_eq_left (by rw [HLk.out]; omega)] at h1
      rw [Nat.pow_mul]
      exact h1
    obtain ⟨xn, hxn⟩ : ∃ y, x.toNat = y := ⟨_, rfl⟩
    obtain ⟨a, ha⟩ : ∃ y, deN (L.take j) = y := ⟨_, rfl⟩
    rw [hxn] at a0 hxl hnext
    rw [ha] at hsm hnext ⊢
    have hor := or_put a xn j hsm hxl (by omega)
    rw [← hnext, ← wrap_put xn j hxl (by omega)] at hor
    have hj3 : j ≤ 3 := by omega
    clear hcx hx hxn ha hsm hnext hS hr1 hg1
    go_wp2
    go_roundw
    case rel => exact ⟨j + 1, by omega, by go_num, rfl, trivial⟩
    case measure => simp [intOf]; omega
  · obtain rfl : j = k := by omega
    have hji : ¬ (j : Int) < j := by omega
    clear hS hr1 hg1
    go_wp2
    go_ret
    exact ⟨congrArg (fun z : Nat => Ending.returned (.int .i64 (z : Int))) HFin.out.symm, HR1.out, HG1.out⟩
/-- A record. -/
def RS.record (s : RS) : Ins × RS :=
  let n := s.num 1
  let s2 := (s.go 1).go n
  let b : RS := ⟨(s.go 1).get n, false⟩
  let b3 := ((b.go 1).go 2).go 2
  let p := b3.num 1
  let b5 := (b3.go 1).go p
  let q := b5.num 1
  let b7 := (b5.go 1).go q
  (⟨b.num 1, ⟨((b3.go 1).get p).toArray⟩, ⟨((b5.go 1).get q).toArray⟩, (b.go 1).num 2, ((b.go 1).go 2).num 2⟩, (⟨s2.l, s2.sh || b7.sh⟩ : RS).go 4)
theorem number_n (g B : Nat) (s : RS) (k : Nat) (w : World) (h : RdG w g B s) (hk4 : k ≤ 4) {v : Nat} {s' : RS} (hv : s.num k = v) (hs : s.go k = s') :
    Calls Tryd.prog 22 #[.pointer (some ⟨g, 0, none⟩), .int .i64 k] w fun e w' => e = .returned (.int .i64 (v : Nat)) ∧ RdG w' g B s' ∧ w.grownBy w' (some g) := by
  subst hv hs
  exact number_any g B s k w h hk4
theorem next_n (g B : Nat) (s : RS) (k : Nat) (w : World) (h : RdG w g B s) (hk6 : k ≤ 65535) {x : List UInt8} {s' : RS} (hx : s.get k = x) (hs : s.go k = s') :
    Calls Tryd.prog 23 #[.pointer (some ⟨g, 0, none⟩), .int .i64 k] w fun e w' => ∃ X, e = .returned (.slice X k k) ∧ Sl w' w'.heap.size 1 X k (x.flatMap u8L) ∧ RdG w' g B s' ∧ w.grownBy w' (some g) := by
  subst hx hs
  exact next_any g B s k w h hk6
theorem conv_any {w : World} {X : Option Addr} {n B : Nat} {l : List UInt8} (h : Sl w B 1 X n (l.flatMap u8L)) (hn : l.length = n) (c : Nat) : (convert 22 9 (.slice X n c)).run Tryd.prog w = .ok (.string ⟨l.toArray⟩) w := by
  have h2 : Sl w B 1 X n (bytesC ⟨l.toArray⟩) := by rw [bytes_u8]; exact h
  exact run_conv h2 (by rw [← hn]; rfl)
end Go.Proofs.YtgeiegjpnnbloaaDoor
