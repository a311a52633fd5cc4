/- alive, and PeepSyncs' parts. -/
import Derived.Test.YtanaccoelifcpaaUtil
namespace Go.Proofs.Ytanaccoelifcpaa
open Go.RowKit

def sA : ByteArray := ⟨#[97]⟩
def p18_sB : ByteArray := ⟨#[98]⟩
theorem alive_peep : peepF 1 [⟨4, sA, p18_sB, 0, 0⟩, ⟨5, sA, ByteArray.empty, 0, 0⟩] = [⟨3, sA, p18_sB, 0, 0⟩] := by kernel_rfl

/-- The contract of Run as the laws use it. -/
theorem run_sl (xs : List Ins) (set : Int) (A : Option Addr) (n c : Nat) (w : World) (l : List Ins) (hl : peepF set xs = l) (hA : Sl w w.heap.size 5 A n (insL xs)) (hn : xs.length = n) (h4 : n ≤ 4096) (hs0 : 0 ≤ set) (hs1 : set ≤ 31) :
    Calls Try.prog 9 #[.slice A n c, .int .i64 set] w (InsRes l 0 w) := by
  subst hl; exact run_ok xs set A n c w hA hn h4 hs0 hs1

theorem Sl.new {w : World} {t : TypeId} {cs : Array Value} {n : Nat} {L : List Value} (hL : cs.toList = L) (hlen : L.length = n * 5) : Sl (w.alloc (.cells cs t)) (w.alloc (.cells cs t)).heap.size 5 (some ⟨w.heap.size, 0, none⟩) n L :=
  ⟨hlen, fun _ => ⟨w.heap.size, 0, rfl, by simp, fun i v hi => by
    rw [Nat.zero_add, (Blk.new w t cs).cell i, ← hL] at *
    simpa using hi⟩⟩

set_option maxHeartbeats 2000000 in
theorem alive_any (w : World) : Calls Try.prog 4 #[] w fun e w' => e = .returned (.bool true) ∧ Below w.heap.size w w' := by
  have hg := Try.eqGuardType44
  have HS := Lib.hid (Sl.new (w := w) (t := 44) (cs := #[.int .i64 4, .string sA, .string p18_sB, .int .i64 0, .int .i64 0, .int .i64 5, .string sA, .string ByteArray.empty, .int .i64 0, .int .i64 0]) (n := 2) (L := insL [⟨4, sA, p18_sB, 0, 0⟩, ⟨5, sA, ByteArray.empty, 0, 0⟩]) rfl rfl)
  go_enter Try.func4, Try.ntmps4
  go_wp2_with (first | (go_at_call 9; refine (run_sl [⟨4, sA, p18_sB, 0, 0⟩, ⟨5, sA, ByteArray.empty, 0, 0⟩] 1 _ 2 2 _ _ alive_peep HS.out rfl (by omega) (by omega) (by omega)).mono ?_; rintro e w1 ⟨A1, c1, rfl, ho, hb⟩; obtain ⟨b, o, x, rfl, hbl, hx, x0, x1, x2, x3, x4⟩ := (Sl.of_own ho).ins rfl (show 0 < 1 by omega); obtain rfl := Option.some.inj hx; simp only [Nat.zero_mul, Nat.add_zero] at x0 x1 x2 x3 x4; replace ho := Lib.hid ho; have hbb := hb.size) | (go_at_call 8; refine (num_any _ _).mono ?_; rintro e w2 ⟨rfl, hb2⟩; obtain ⟨x0, x1, x2, x3, x4⟩ := Ins.at_keep (x := ⟨3, sA, p18_sB, 0, 0⟩) (And.intro x0 (And.intro x1 (And.intro x2 (And.intro x3 x4)))) (hb2.block b hbl)))
  go_ret
  exact ⟨by show Ending.returned (.bool (Ins.eqb ⟨3, sA, p18_sB, 0, 0⟩ ⟨3, sA, p18_sB, 0, 0⟩)) = _; rw [Ins.eqb_self], (((Below.refl _ _).alloc (Nat.le_refl _) _).trans (hb.mono (by simp))).trans (hb2.mono (by simp at hbb; omega))⟩
end Go.Proofs.Ytanaccoelifcpaa
