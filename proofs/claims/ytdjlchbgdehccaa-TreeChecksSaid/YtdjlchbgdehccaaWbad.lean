/- tree.Weight of a tree that is not loose. -/
import Derived.Test.YtdjlchbgdehccaaWgh
namespace Go.Proofs.Ytdjlchbgdehccaa
open Go.RowKit Go.Shelf

def WBad (E : Int) (w : World) (e : Ending) (w' : World) : Prop := e = .returned (.tuple #[.complex .f64 0 0, .int .i64 E]) ∧ Below w.heap.size w w'
set_option maxRecDepth 1000000 in
set_option maxHeartbeats 4000000 in
theorem weight_bad (t : TV) (w : World) (h : TreeAt w t) (hl : looseE t ≠ 0) : Calls Try.prog 17 #[t.val] w (WBad (looseE t) w) := by
  obtain ⟨E, hE⟩ : ∃ E, looseE t = E := ⟨_, rfl⟩
  rw [hE] at hl ⊢
  have hl' : (E != 0) = true := by simp [hl]
  obtain ⟨nodes, files, NA, nn, nc, FA, fn, fc⟩ := t
  have Ht := Lib.hid h; clear h
  replace hE := Lib.hid hE
  clear hl
  have hb0 := Blk.new w 26 #[.slice NA nn nc, .slice FA fn fc]
  have HW0 : Below w.heap.size w (w.alloc (.cells #[.slice NA nn nc, .slice FA fn fc] 26)) := (Below.refl _ _).alloc (Nat.le_refl _) _
  unfold TV.val
  go_enter Try.func17, Try.ntmps17
  go_wp2_with (first | (go_at_call 16; refine (loose_any ⟨nodes, files, NA, nn, nc, FA, fn, fc⟩ _ (Ht.out.keep HW0)).mono ?_; rintro e w1 ⟨rfl, hb1⟩; rw [hE.out]; have HW1 := HW0.trans (hb1.mono (by simp))))
  exact And.intro rfl ⟨_, (results_tmp2 rfl _ _ _).trans rfl, rfl, HW1⟩
end Go.Proofs.Ytdjlchbgdehccaa
