/- slices.Clone of bytes. -/
import Derived.Test.YtanaccoelifcpaaCopy0
import Derived.Test.YtanaccoelifcpaaKit
import Derived.Laws.Cover3
namespace Go.Proofs.Ytanaccoelifcpaa
open Go.RowKit

def CloneRes (n : Nat) (d : ByteArray) (w : World) (e : Ending) (w' : World) : Prop :=
  ∃ (A3 : Option Addr) (c3 : Nat), e = .returned (.slice A3 n c3) ∧ w'.ownsRow w.heap.size 5 1 (.slice A3 n c3) n (bytesC d) ∧ Below w.heap.size w w'
set_option maxRecDepth 100000 in
set_option maxHeartbeats 2000000 in
theorem clone_any (d : ByteArray) (A : Option Addr) (n c : Nat) (w : World) (hd : d.size = n) (hn : n ≤ 1000000) (hS : Sl w w.heap.size 1 A n (bytesC d)) :
    Calls Try.prog 22 #[.slice A n c] w (CloneRes n d w) := by
  have HS := Lib.hid hS
  have Hd := Lib.hid hd
  rcases A with _ | a
  · have h0 : n = 0 := by
      rcases Nat.eq_zero_or_pos n with h | h
      · exact h
      · obtain ⟨_, _, e, _⟩ := hS.2 h; cases e
    have hL : bytesC d = [] := List.eq_nil_of_length_eq_zero (by rw [bytesC_length]; omega)
    subst h0
    have HL := Lib.hid hL
    clear hL hS hd
    have hq : ∀ w : World, (binOp .eql 47 (.slice none 0 c) (.slice none 0 0)).run Try.prog w = .ok (.bool true) w := fun _ => rfl
    go_enter Try.func22, Try.ntmps22
    go_wp2
    go_ret
    exact ⟨none, 0, rfl, by rw [HL.out]; exact World.ownsRow_nil _ _ _ _, Below.refl _ _⟩
  · clear hS hd
    have hq : ∀ w : World, (binOp .eql 47 (.slice (some a) n c) (.slice none 0 0)).run Try.prog w = .ok (.bool false) w := fun _ => rfl
    have hO : (w.alloc (.cells #[] 5)).ownsRow w.heap.size 5 1 (.slice (some ⟨w.heap.size, 0, none⟩) 0 0) 0 [] :=
      ⟨rfl, .inr ⟨w.heap.size, 0, #[], rfl, Nat.le_refl _, heap_alloc_new w _, Nat.le_refl _, Nat.zero_le _, rfl, rfl⟩⟩
    have hSa := HS.out.keep (w' := w.alloc (.cells #[] 5)) (Nat.le_refl _) (fun k hk => Below.heap_alloc w _ k hk)
    have HO := Lib.hid hO; have HSa := Lib.hid hSa; clear hO hSa
    go_enter Try.func22, Try.ntmps22
    go_wp2_with (at_builtin; refine wpList_append_sl rfl _ _ _ rfl Try.u8T rfl HO.out rfl HSa.out (fun u hu => bytesC_one d u hu) (by unfold maxLen; omega) (by omega) (by simp) ?_; intro A3 c3 w4 ho4 hg4 hat4)
    simp only [Nat.zero_add, List.nil_append] at ho4
    go_ret
    refine ⟨A3, c3, by simp, ho4, ?_⟩
    exact ((Below.refl _ w).alloc (Nat.le_refl _) _).trans (below_grown hg4 (by simp) (fun g e => by simp [blkOf] at e; omega))
end Go.Proofs.Ytanaccoelifcpaa
