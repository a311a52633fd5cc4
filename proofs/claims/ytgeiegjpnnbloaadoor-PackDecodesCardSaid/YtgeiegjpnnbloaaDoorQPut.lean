/- shuntref19.put, text, get. -/
import Derived.Test.YtgeiegjpnnbloaaDoorScript
namespace Go.Proofs.YtgeiegjpnnbloaaDoor
open Go.ChangeShapes Go.WideShapes Go.ChangeAt Go.ChangeMaps Go.RowKit Go.Deep

set_option maxRecDepth 100000 in
set_option maxHeartbeats 4000000 in
theorem rput_any (x : Int) (k : Nat) (hk : k ≤ 4) (base : Nat) (L : List UInt8) (A : Option Addr) (n c : Nat) (w : World) (ho : w.ownsRow base 5 1 (.slice A n c) n (L.flatMap u8L)) (hn : n + k ≤ 1000000000) (hbase : base ≤ w.heap.size) :
    Calls Tryd.prog 32 #[.slice A n c, .int .i64 x, .int .i64 k] w (GrewRow base A (n + k) (L ++ leB x k) w) := by
  have HO := Lib.hid ho
  clear ho
  go_enter Tryd.func32, Tryd.ntmps32
  go_wp2
  go_loopw [0, 7] (fun b i wr => ∃ j : Nat, j ≤ k ∧ i = .int .i64 j ∧ PutAt base A (n + j) (L ++ leB x j) w b wr) (fun _ i _ => k - (intOf i).toNat)
  case atStart => exact ⟨0, Nat.zero_le _, rfl, A, c, rfl, by rw [show leB x 0 = [] from rfl, List.append_nil]; exact HO.out, World.grownBy.refl _ _, fun g h => .inl h⟩
  case round =>
  obtain ⟨j, hj, rfl, A1, c1, rfl, ho1, hb1, ha1⟩ := hrel
  have HO1 := Lib.hid ho1; have HB1 := Lib.hid hb1; have HA1 := Lib.hid ha1
  by_cases hlt : j < k
  · have hji : (j : Int) < k := by omega
    have hj3 : j ≤ 3 := by omega
    have hsz := hb1.size
    clear ho1 hb1 ha1
    have hz : base ≤ wr.heap.size := Nat.le_trans hbase hsz
    have hcell := byteB_cell x j
    go_wp2_with (at_builtin; refine wpList_append_one rfl _ _ _ rfl Tryd.u8T rfl HO1.out #[.int .u8 (x / 2 ^ (8 * j) % 256)] rfl (by first | rfl | simp) rfl (by simp [Value.oneCell']) (by unfold maxLen; omega) (by omega) hz ?_; intro g5 c5 w5 ho5 hg5 hat5)
    go_roundw
    case rel => exact ⟨j + 1, by omega, by go_num, some ⟨g5, 0, none⟩, c5, rfl, by rw [leB_succ, ← List.append_assoc, List.flatMap_append]; rw [hcell] at ho5; exact ho5, grew_own HB1.out hg5 HA1.out, fun g e => by
      rcases hat5 with h | h
      · have : blkOf A1 = some g := by rw [h]; exact e
        exact HA1.out g this
      · have e' : some g5 = some g := e
        injection e' with e'
        exact .inr (by omega)⟩
    case measure => simp [intOf]; omega
  · obtain rfl : j = k := by omega
    have hji : ¬ (j : Int) < j := by omega
    clear ho1 hb1 ha1
    go_wp2
    go_ret
    exact ⟨A1, c1, rfl, HO1.out, HB1.out, HA1.out⟩
set_option maxRecDepth 100000 in
set_option maxHeartbeats 4000000 in
theorem rtext_any (s : ByteArray) (hs : s.size ≤ 1000000) (base : Nat) (L : List UInt8) (A : Option Addr) (n c : Nat) (w : World) (ho : w.ownsRow base 5 1 (.slice A n c) n (L.flatMap u8L)) (hn : n ≤ 100000000) (hbase : base ≤ w.heap.size) :
    Calls Tryd.prog 33 #[.slice A n c, .string s] w (GrewRow base A (n + 1 + s.size) (L ++ leB s.size 1 ++ s.data.toList) w) := by
  have hcell : (#[.int .u8 ((s.size : Int) % 256)] : Array Value).toList = (leB s.size 1).flatMap u8L := by
    have := byteB_cell s.size 0
    simpa [leB] using this
  have HO := Lib.hid ho; have HC := Lib.hid hcell
  clear ho hcell
  go_enter Tryd.func33, Tryd.ntmps33
  go_wp2_with (first | (at_builtin; refine wpList_append_one rfl (.tmp 5) (.tmp 9) _ rfl Tryd.u8T rfl HO.out #[.int .u8 ((s.size : Int) % 256)] rfl (by first | rfl | simp) rfl (by simp [Value.oneCell']) (by unfold maxLen; omega) (by omega) hbase ?_; intro g1 c1 w1 ho1 hg1 hat1; have hz := Nat.le_trans hbase hg1.size; rw [HC.out, ← List.flatMap_append] at ho1) | (at_builtin; refine wpList_append_txt rfl _ _ rfl rfl ho1 rfl (by omega) hz ?_; intro A3 c3 w3 ho3 hg3 ha3))
  go_ret
  have ha1 : ∀ g, blkOf (some ⟨g1, 0, none⟩) = some g → blkOf A = some g ∨ w.heap.size ≤ g := fun g e => by
    rcases hat1 with h | h
    · left; rw [h]; exact e
    · have e' : some g1 = some g := e
      injection e' with e'
      exact .inr (by omega)
  exact ⟨A3, c3, rfl, by rw [← List.append_assoc, List.flatMap_append]; exact ho3, grew_own hg1 hg3 ha1, blk_chain ha1 ha3 hg1.size⟩
end Go.Proofs.YtgeiegjpnnbloaaDoor
