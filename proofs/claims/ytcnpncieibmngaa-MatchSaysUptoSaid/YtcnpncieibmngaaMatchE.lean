/- match.Match at whatever arguments. -/
import Derived.Test.YtcnpncieibmngaaMatch
namespace Go.Proofs.Ytcnpncieibmngaa
open Go.RowKit Go.Shelf

set_option maxRecDepth 100000 in
set_option maxHeartbeats 4000000 in
theorem match_bad1 (s t : TV) (SA : Option Addr) (sn sc : Nat) (w : World) (hs : TreeAt w s) (ht : TreeAt w t) (E : Int) (hE : checksE s t = E) (h0 : E ≠ 0) :
    Calls Try.prog 12 #[s.val, t.val, .slice SA sn sc] w (MatchRes E [] w) := by
  have hck : ∀ W, Below w.heap.size w W → Calls Try.prog 31 #[s.val, t.val] W (IntRes E W) := fun W hW => by
    rw [← hE]
    exact checked_any s t W (hs.keep hW) (ht.keep hW)
  have hB1 := (((Blk.new w 25 #[.slice s.NA s.nn s.nc, .slice s.FA s.fn s.fc]).alloc (.cells #[.slice t.NA t.nn t.nc, .slice t.FA t.fn t.fc] 25)).alloc (.cells #[.slice none 0 0] 29)).alloc (.cells #[.int .i64 0] 30)
  have hB2 := ((Blk.new (w.alloc (.cells #[.slice s.NA s.nn s.nc, .slice s.FA s.fn s.fc] 25)) 25 #[.slice t.NA t.nn t.nc, .slice t.FA t.fn t.fc]).alloc (.cells #[.slice none 0 0] 29)).alloc (.cells #[.int .i64 0] 30)
  have hB3 := (Blk.new ((w.alloc (.cells #[.slice s.NA s.nn s.nc, .slice s.FA s.fn s.fc] 25)).alloc (.cells #[.slice t.NA t.nn t.nc, .slice t.FA t.fn t.fc] 25)) 29 #[.slice none 0 0]).alloc (.cells #[.int .i64 0] 30)
  have hB4 := Blk.new (((w.alloc (.cells #[.slice s.NA s.nn s.nc, .slice s.FA s.fn s.fc] 25)).alloc (.cells #[.slice t.NA t.nn t.nc, .slice t.FA t.fn t.fc] 25)).alloc (.cells #[.slice none 0 0] 29)) 30 #[.int .i64 0]
  have hb := (((((Below.refl w.heap.size w).alloc (Nat.le_refl _) (.cells #[.slice s.NA s.nn s.nc, .slice s.FA s.fn s.fc] 25)).alloc (by simp) (.cells #[.slice t.NA t.nn t.nc, .slice t.FA t.fn t.fc] 25)).alloc (by simp; omega) (.cells #[.slice none 0 0] 29)).alloc (by simp; omega) (.cells #[.int .i64 0] 30))
  simp only [World.size_alloc] at hB2 hB3 hB4
  have HCk := Lib.hid hck
  clear hck hs ht hE
  unfold TV.val at HCk ⊢
  have hne := bne_iff_ne.2 h0
  have heq := beq_eq_false_iff_ne.2 h0
  have H0 := Lib.hid h0; clear h0
  refine (callsIn_wide (n := 5)).1 ?_
  refine callsIn_of_wp_marks Try.func12 rfl trivial ?_ rfl
  refine wpIn_wide.2 ?_
  simp only [Try.ntmps12, List.size_toArray, List.length_cons, List.length_nil, Nat.reduceAdd, Nat.reduceSub, Array.replicate_succ, Array.replicate_zero, List.push_toArray, List.append_toArray, List.nil_append, List.cons_append]
  have b0 := hB1.cell 0; have b1 := hB1.cell 1; have t0 := hB2.cell 0; have t1 := hB2.cell 1
  have hbs := hb.size
  have hrx : w.heap.size + 1 + 1 ≠ w.heap.size + 1 + 1 + 1 := by omega
  go_wp2_with (go_at_call 31; refine (HCk.out _ hb).mono ?_; rintro e w1 ⟨rfl, hb1⟩; replace hB3 := hB3.below hb1 hB3.lt; replace hB4 := hB4.below hb1 hB4.lt; replace hb := hb.trans (hb1.mono hbs); have hr0 := hB3.cell 0; have he0 := hB4.cell 0; have hrf := hB3.frozen 0; have hef := hB4.frozen 0; have hrl := hB3.lt; have hee := hB4.lt)
  have r0 := ((hB3.set 0 (.slice none 0 0)).set_ne ⟨w.heap.size + 1 + 1 + 1, 0, none⟩ (.int .i64 E) hrx).cell 0
  have e0 := ((hB4.set_ne ⟨w.heap.size + 1 + 1, 0, none⟩ (.slice none 0 0) (fun e => hrx e.symm)).set 0 (.int .i64 E)).cell 0
  refine ⟨_, (results_cell_cc rfl _ _ _).trans (by go_simp), none, 0, 0, rfl, rfl, ⟨rfl, fun h => absurd h (by omega)⟩, (hb.setCell (p := ⟨w.heap.size + 1 + 1, 0, none⟩) (by show w.heap.size ≤ w.heap.size + 1 + 1; omega) _).setCell (p := ⟨w.heap.size + 1 + 1 + 1, 0, none⟩) (by show w.heap.size ≤ w.heap.size + 1 + 1 + 1; omega) _⟩
set_option maxRecDepth 100000 in
set_option maxHeartbeats 4000000 in
theorem match_bad2 (s t : TV) (SA : Option Addr) (sn sc : Nat) (ss : List SC) (sd : List ByteArray) (w : World) (hs : TreeAt w s) (ht : TreeAt w t) (hS : StockAt w SA sn ss sd) (h1 : checksE s t = 0) (E : Int) (hE : stockE sd = E) (h0 : E ≠ 0) :
    Calls Try.prog 12 #[s.val, t.val, .slice SA sn sc] w (MatchRes E [] w) := by
  have hck : ∀ W, Below w.heap.size w W → Calls Try.prog 31 #[s.val, t.val] W (IntRes 0 W) := fun W hW => by
    rw [← h1]
    exact checked_any s t W (hs.keep hW) (ht.keep hW)
  have hst : ∀ W, Below w.heap.size w W → Calls Try.prog 32 #[.slice SA sn sc] W (IntRes E W) := fun W hW => by
    rw [← hE]
    exact stock_any SA sn sc ss sd W (hS.keep hW)
  have hB1 := (((Blk.new w 25 #[.slice s.NA s.nn s.nc, .slice s.FA s.fn s.fc]).alloc (.cells #[.slice t.NA t.nn t.nc, .slice t.FA t.fn t.fc] 25)).alloc (.cells #[.slice none 0 0] 29)).alloc (.cells #[.int .i64 0] 30)
  have hB2 := ((Blk.new (w.alloc (.cells #[.slice s.NA s.nn s.nc, .slice s.FA s.fn s.fc] 25)) 25 #[.slice t.NA t.nn t.nc, .slice t.FA t.fn t.fc]).alloc (.cells #[.slice none 0 0] 29)).alloc (.cells #[.int .i64 0] 30)
  have hB3 := (Blk.new ((w.alloc (.cells #[.slice s.NA s.nn s.nc, .slice s.FA s.fn s.fc] 25)).alloc (.cells #[.slice t.NA t.nn t.nc, .slice t.FA t.fn t.fc] 25)) 29 #[.slice none 0 0]).alloc (.cells #[.int .i64 0] 30)
  have hB4 := Blk.new (((w.alloc (.cells #[.slice s.NA s.nn s.nc, .slice s.FA s.fn s.fc] 25)).alloc (.cells #[.slice t.NA t.nn t.nc, .slice t.FA t.fn t.fc] 25)).alloc (.cells #[.slice none 0 0] 29)) 30 #[.int .i64 0]
  have hb := (((((Below.refl w.heap.size w).alloc (Nat.le_refl _) (.cells #[.slice s.NA s.nn s.nc, .slice s.FA s.fn s.fc] 25)).alloc (by simp) (.cells #[.slice t.NA t.nn t.nc, .slice t.FA t.fn t.fc] 25)).alloc (by simp; omega) (.cells #[.slice none 0 0] 29)).alloc (by simp; omega) (.cells #[.int .i64 0] 30))
  simp only [World.size_alloc] at hB2 hB3 hB4
  have HCk := Lib.hid hck; have HSt := Lib.hid hst
  clear hck hst hs ht hE h1 hS
  unfold TV.val at HCk ⊢
  have hne := bne_iff_ne.2 h0
  have heq := beq_eq_false_iff_ne.2 h0
  have H0 := Lib.hid h0; clear h0
  refine (callsIn_wide (n := 5)).1 ?_
  refine callsIn_of_wp_marks Try.func12 rfl trivial ?_ rfl
  refine wpIn_wide.2 ?_
  simp only [Try.ntmps12, List.size_toArray, List.length_cons, List.length_nil, Nat.reduceAdd, Nat.reduceSub, Array.replicate_succ, Array.replicate_zero, List.push_toArray, List.append_toArray, List.nil_append, List.cons_append]
  have b0 := hB1.cell 0; have b1 := hB1.cell 1; have t0 := hB2.cell 0; have t1 := hB2.cell 1
  have hbs := hb.size
  have hrx : w.heap.size + 1 + 1 ≠ w.heap.size + 1 + 1 + 1 := by omega
  go_wp2_with (first | (go_at_call 31; refine (HCk.out _ hb).mono ?_; rintro e w1 ⟨rfl, hb1⟩; replace hB3 := hB3.below hb1 hB3.lt; replace hB4 := hB4.below hb1 hB4.lt; replace hb := hb.trans (hb1.mono hbs)) | (go_at_call 32; refine (HSt.out _ hb).mono ?_; rintro e w2 ⟨rfl, hb2⟩; replace hB3 := hB3.below hb2 hB3.lt; replace hB4 := hB4.below hb2 hB4.lt; replace hb := hb.trans (hb2.mono hb.size); have hr0 := hB3.cell 0; have he0 := hB4.cell 0; have hrf := hB3.frozen 0; have hef := hB4.frozen 0; have hrl := hB3.lt; have hee := hB4.lt))
  have r0 := ((hB3.set 0 (.slice none 0 0)).set_ne ⟨w.heap.size + 1 + 1 + 1, 0, none⟩ (.int .i64 E) hrx).cell 0
  have e0 := ((hB4.set_ne ⟨w.heap.size + 1 + 1, 0, none⟩ (.slice none 0 0) (fun e => hrx e.symm)).set 0 (.int .i64 E)).cell 0
  refine ⟨_, (results_cell_cc rfl _ _ _).trans (by go_simp), none, 0, 0, rfl, rfl, ⟨rfl, fun h => absurd h (by omega)⟩, (hb.setCell (p := ⟨w.heap.size + 1 + 1, 0, none⟩) (by show w.heap.size ≤ w.heap.size + 1 + 1; omega) _).setCell (p := ⟨w.heap.size + 1 + 1 + 1, 0, none⟩) (by show w.heap.size ≤ w.heap.size + 1 + 1 + 1; omega) _⟩
/-- What match.Match says. -/
theorem match_any (s t : TV) (ds es : List ByteArray) (SA : Option Addr) (sn sc : Nat) (ss : List SC) (sd : List ByteArray) (w : World) (hs : TreeD w s ds) (ht : TreeD w t es) (hS : StockAt w SA sn ss sd) :
    Calls Try.prog 12 #[s.val, t.val, .slice SA sn sc] w (MatchRes (matchE s t ds es sd) (matchL s t ds es sd) w) := by
  by_cases c1 : checkE s = 0
  · by_cases c2 : checkE t = 0
    · by_cases c3 : stockE sd = 0
      · exact match_main s t ds es SA sn sc ss sd w hs ht hS c1 c2 c3
      · have h := match_bad2 s t SA sn sc ss sd w hs.tree ht.tree hS (by unfold checksE; rw [c1, c2]; rfl) (stockE sd) rfl c3
        unfold matchE matchL
        rw [if_neg (by simp [c1]), if_neg (by simp [c2]), if_pos c3, if_neg (by simp [c1]), if_neg (by simp [c2]), if_pos c3]
        exact h
    · have h := match_bad1 s t SA sn sc w hs.tree ht.tree (checkE t) (by unfold checksE; rw [c1]; rfl) c2
      unfold matchE matchL
      rw [if_neg (by simp [c1]), if_pos c2, if_neg (by simp [c1]), if_pos c2]
      exact h
  · have h := match_bad1 s t SA sn sc w hs.tree ht.tree (checkE s) (by unfold checksE; rw [if_pos c1]) c1
    unfold matchE matchL
    rw [if_pos c1, if_pos c1]
    exact h
end Go.Proofs.Ytcnpncieibmngaa
