/- model.Run. -/
import Derived.Test.YthmeffpickejkaaAll
import Derived.Test.YthmeffpickejkaaLaw7
namespace Go.Proofs.Ythmeffpickejkaa
open Go.RowKit

/-- What Run hands back, of a tree that is loose and a list that is not too long. -/
def RunRes (R : PW × Nat × Int) (w : World) (e : Ending) (w' : World) : Prop :=
  ∃ u, e = .returned (.tuple #[u.val, .int .i64 R.2.1, .int .i64 R.2.2]) ∧ (∃ S, ToldAs R.1 w.heap.size w' S u) ∧ Below w.heap.size w w'
set_option maxRecDepth 100000 in
set_option maxHeartbeats 4000000 in
theorem run_any (t : TV) (ds : List ByteArray) (cs : List Cmd) (hco : ∀ c ∈ cs, (-9223372036854775808 ≤ c.op ∧ c.op ≤ 9223372036854775807)) (A : Option Addr) (n cap : Nat) (SA : Option Addr) (sn sc : Nat) (ss : List SC) (sd : List ByteArray) (w : World) (h : TreeD w t ds) (hl : looseE t = 0) (hA : Sl w w.heap.size 5 A n (cs.flatMap Cmd.list)) (hn : cs.length = n) (hn4 : n ≤ 4096) (hS : StockAt w SA sn ss sd) :
    Calls Try.prog 34 #[t.val, .slice A n cap, .slice SA sn sc] w (RunRes (runG sd cs (openM t ds) 0) w) := by
  obtain ⟨R, hR⟩ : ∃ R, runG sd cs (openM t ds) 0 = R := ⟨_, rfl⟩
  rw [hR]
  have hw2 : Below w.heap.size w ((w.alloc (.cells #[.slice t.NA t.nn t.nc, .slice t.FA t.fn t.fc] 25)).alloc (.cells #[.slice none 0 0, .slice none 0 0] 25)) := ((Below.refl _ _).alloc (Nat.le_refl _) _).alloc (by simp) _
  have hT := (Blk.new w 25 #[.slice t.NA t.nn t.nc, .slice t.FA t.fn t.fc]).alloc (.cells #[.slice none 0 0, .slice none 0 0] 25)
  have hQ := Blk.new (w.alloc (.cells #[.slice t.NA t.nn t.nc, .slice t.FA t.fn t.fc] 25)) 25 #[.slice none 0 0, .slice none 0 0]
  rw [World.size_alloc] at hQ
  obtain ⟨W0, hW0⟩ : ∃ W, ((w.alloc (.cells #[.slice t.NA t.nn t.nc, .slice t.FA t.fn t.fc] 25)).alloc (.cells #[.slice none 0 0, .slice none 0 0] 25)) = W := ⟨_, rfl⟩
  have hs0 : W0.heap.size = w.heap.size + 1 + 1 := by rw [← hW0]; simp
  have hcall := all_any t ds cs hco A n cap SA sn sc ss sd W0 (by rw [← hW0]; exact h.keep hw2) hl (by rw [← hW0]; exact (hA.below hw2 (Nat.le_refl _)).more (by simp; omega)) hn hn4 (by rw [← hW0]; exact hS.keep hw2)
  rw [hR] at hcall
  unfold TV.val fnV at hcall
  unfold TV.val
  rw [hW0] at hw2 hT hQ
  have b0 := hT.cell 0
  have b1 := hT.cell 1
  have Hcall := Lib.hid hcall; have HW0 := Lib.hid hW0
  clear hcall hR hS hA h hW0
  go_enter Try.func34, Try.ntmps34
  go_upto_region 1 with (fail)
  rw [HW0.out]
  have hcmp : ∀ (b : Nat) (w : World), (binOp .eql 77 (.pointer (some ⟨b, 0, none⟩)) (.pointer none)).run Try.prog w = .ok (.bool false) w := fun _ _ => rfl
  go_upto_region 4 with (go_at_call 54; refine Hcall.out.mono ?_; rintro e w1 ⟨wb, rfl, ⟨s, hs, hW⟩, hI, hl2, hx, hb1⟩)
  have HW := Lib.hid hW; have HI := Lib.hid hI
  clear hW hI Hcall b0 b1
  have hsz1 := hb1.size
  have hQ1 := hQ.below hb1 (by omega)
  have hb := hw2.trans (hb1.mono (by omega))
  have htell := tell_any (W0.heap.size + 1) wb R.1 s w1 HW.out HI.out.apart (fun x hx => HI.out.file hx) (fun x hx => by have := HI.out.lt hx; omega) (fun f hf => by have := (HI.out.fbd f hf).2.2.2; omega) (by omega)
  have Htell := Lib.hid htell; clear htell
  have hQl := hQ1.lt
  go_wp2_with (first | (go_at_call 40; refine Htell.out.mono ?_; intro e w3 hT3; obtain ⟨S, u, rfl, hTA, hb3⟩ := told_of hT3; have hQ3 := hQ1.below hb3 hQl; unfold TV.val) | (refine wpList_store_blk rfl 25 (.tmp 6) (.tmp 25) rfl hQ3 #[.slice u.NA u.nn u.nc, .slice u.FA u.fn u.fc] rfl rfl (show (Try.prog.info? 25).map (·.size) = some 2 by kernel_rfl) rfl (by simp [Value.oneCell']) ?_; intro w4 hB4 hg4 hs4))
  refine ret_cell_tt rfl rfl (load_blk hB4 Try.underlying25 rfl (show (Try.prog.info? 25).map (·.size) = some 2 by kernel_rfl)) rfl ?_
  refine ⟨u, rfl, ⟨S, (hTA.store hQ3 hg4).base (by omega)⟩, ?_⟩
  exact (hb.trans (hb3.mono (by omega))).trans (below_grown hg4 (by have := hb3.size; omega) (fun g e => by injection e with e; omega))
set_option maxRecDepth 100000 in
/-- Run of a tree or a list that is refused. -/
theorem run_no (E : Int) (t : TV) (A : Option Addr) (n cap : Nat) (SA : Option Addr) (sn sc : Nat) (w : World)
    (hcall : ∀ W, Below w.heap.size w W → Calls Try.prog 54 #[t.val, .slice A n cap, .slice SA sn sc, fnV 55] W fun e w' => e = .returned (.tuple #[.pointer none, .int .i64 0, .int .i64 E]) ∧ Below W.heap.size W w') :
    Calls Try.prog 34 #[t.val, .slice A n cap, .slice SA sn sc] w fun e w' => e = .returned (.tuple #[zeroTV.val, .int .i64 0, .int .i64 E]) ∧ Below w.heap.size w w' := by
  have hw2 : Below w.heap.size w ((w.alloc (.cells #[.slice t.NA t.nn t.nc, .slice t.FA t.fn t.fc] 25)).alloc (.cells #[.slice none 0 0, .slice none 0 0] 25)) := ((Below.refl _ _).alloc (Nat.le_refl _) _).alloc (by simp) _
  have hT := (Blk.new w 25 #[.slice t.NA t.nn t.nc, .slice t.FA t.fn t.fc]).alloc (.cells #[.slice none 0 0, .slice none 0 0] 25)
  have hQ := Blk.new (w.alloc (.cells #[.slice t.NA t.nn t.nc, .slice t.FA t.fn t.fc] 25)) 25 #[.slice none 0 0, .slice none 0 0]
  rw [World.size_alloc] at hQ
  obtain ⟨W0, hW0⟩ : ∃ W, ((w.alloc (.cells #[.slice t.NA t.nn t.nc, .slice t.FA t.fn t.fc] 25)).alloc (.cells #[.slice none 0 0, .slice none 0 0] 25)) = W := ⟨_, rfl⟩
  have hs0 : W0.heap.size = w.heap.size + 1 + 1 := by rw [← hW0]; simp
  have hc := hcall W0 (by rw [← hW0]; exact hw2)
  unfold TV.val fnV at hc
  unfold TV.val
  rw [hW0] at hw2 hT hQ
  have b0 := hT.cell 0
  have b1 := hT.cell 1
  have Hcall := Lib.hid hc; have HW0 := Lib.hid hW0
  clear hcall hc hW0
  have hcmp : ∀ (w : World), (binOp .eql 77 (.pointer none) (.pointer none)).run Try.prog w = .ok (.bool true) w := fun _ => rfl
  go_enter Try.func34, Try.ntmps34
  go_upto_region 1 with (fail)
  rw [HW0.out]
  go_upto_region 3 with (go_at_call 54; refine Hcall.out.mono ?_; rintro e w1 ⟨rfl, hb1⟩)
  have hQ1 := hQ.below hb1 (by omega)
  have hb := hw2.trans (hb1.mono (by omega))
  have hsz1 := hb1.size
  go_wp2_with (refine wpList_store_blk rfl 25 (.tmp 6) (.tmp 22) rfl hQ1 #[.slice none 0 0, .slice none 0 0] rfl rfl (show (Try.prog.info? 25).map (·.size) = some 2 by kernel_rfl) rfl (by kernel_rfl) ?_; intro w4 hB4 hg4 hs4)
  refine ret_cell_tt rfl rfl (load_blk hB4 Try.underlying25 rfl (show (Try.prog.info? 25).map (·.size) = some 2 by kernel_rfl)) rfl ?_
  exact ⟨rfl, hb.trans (below_grown hg4 (by omega) (fun g e => by injection e with e; omega))⟩
end Go.Proofs.Ythmeffpickejkaa
