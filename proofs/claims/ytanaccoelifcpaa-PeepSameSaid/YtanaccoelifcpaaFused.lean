/- peep.rules and peep.fused: the first rule that fits two instructions under a setting. -/
import Derived.Test.YtanaccoelifcpaaRules
import Derived.Laws.EntriesVeiled
namespace Go.Proofs.Ytanaccoelifcpaa
open Go.RowKit

/-- The value that peep.rules hands back. -/
def ruleCells : Array Value := #[.int .i64 1, .func (.func 23) #[] #[], .int .i64 1, .func (.func 26) #[] #[], .int .i64 1, .func (.func 27) #[] #[], .int .i64 2, .func (.func 29) #[] #[], .int .i64 2, .func (.func 30) #[] #[], .int .i64 2, .func (.func 31) #[] #[], .int .i64 2, .func (.func 32) #[] #[], .int .i64 4, .func (.func 33) #[] #[], .int .i64 4, .func (.func 34) #[] #[], .int .i64 4, .func (.func 35) #[] #[], .int .i64 4, .func (.func 36) #[] #[]]
def rulesL : List (Int × (Ins → Ins → Option (List Ins))) := [(1, rule1), (1, rule2), (1, rule3), (2, rule4), (2, rule5), (2, rule6), (2, rule7), (4, rule8), (4, rule9), (4, rule10), (4, rule11)]
def fusedF (x y : Ins) (set : Int) : List (Int × (Ins → Ins → Option (List Ins))) → Option (List Ins)
  | [] => none
  | (s, r) :: t => if (bits .and .i64 set s == 0) = true then fusedF x y set t else match r x y with
    | some l => some l
    | none => fusedF x y set t
/-- What is answered for two instructions. -/
def fuse (x y : Ins) (set : Int) : Option (List Ins) := fusedF x y set rulesL

set_option maxHeartbeats 1000000 in
set_option maxRecDepth 100000 in
theorem rules_any (w : World) : Calls Try.prog 15 #[] w fun e w' => e = .returned (.agg ruleCells) ∧ Below w.heap.size w w' := by
  go_enter Try.func15, Try.ntmps15
  go_wp2_with (refine wpList_store_new rfl _ _ _ rfl _ _ _ rfl rfl (by kernel_rfl) (by rfl) (by kernel_rfl) ?_)
  exact ret_cell1 rfl rfl (run_loadVar_new _ _ _ _ _ Try.underlying58 (by kernel_rfl)) rfl ⟨rfl, (Below.refl _ _).alloc (Nat.le_refl _) _⟩

theorem rr_none {f : FuncId} {args : Array Value} {w : World} {r : Option (List Ins)} (h : r = none) (hc : Calls Try.prog f args w (RuleRes r w)) :
    Calls Try.prog f args w fun e w' => e = .returned (.tuple #[.slice none 0 0, .bool false]) ∧ Below w.heap.size w w' := by
  subst h; exact hc.mono fun e w' ⟨a, b⟩ => ⟨b, a⟩
theorem rr_nil {f : FuncId} {args : Array Value} {w : World} {r : Option (List Ins)} (h : r = some []) (hc : Calls Try.prog f args w (RuleRes r w)) :
    Calls Try.prog f args w fun e w' => e = .returned (.tuple #[.slice none 0 0, .bool true]) ∧ Below w.heap.size w w' := by
  subst h; exact hc.mono fun e w' ⟨a, b⟩ => ⟨b, a⟩
theorem rr_one {f : FuncId} {args : Array Value} {w : World} {r : Option (List Ins)} {i : Ins} {t : List Ins} (h : r = some (i :: t)) (hc : Calls Try.prog f args w (RuleRes r w)) :
    Calls Try.prog f args w fun e w' => ∃ g, e = .returned (.tuple #[.slice (some ⟨g, 0, none⟩) 1 1, .bool true]) ∧ w.heap.size ≤ g ∧ w'.heap[g]? = some (.cells i.cells 44 (0, 0)) ∧ Below w.heap.size w w' := by
  subst h; exact hc.mono fun e w' ⟨a, g, b, c, d⟩ => ⟨g, b, c, d, a⟩

/-- What stands at the head of each round of fused. -/
def FusedAt (x y : Ins) (set : Int) (w wr : World) (j : Int) : Prop :=
  fuse x y set = fusedF x y set (rulesL.drop j.toNat) ∧ Below w.heap.size w wr ∧ Blk wr (w.heap.size + 1) 44 x.cells ∧ Blk wr (w.heap.size + 2) 44 y.cells

theorem idx0 (w : World) : (Instr.index 58 (.agg #[.int .i64 1, .func (.func 23) #[] #[], .int .i64 1, .func (.func 26) #[] #[], .int .i64 1, .func (.func 27) #[] #[], .int .i64 2, .func (.func 29) #[] #[], .int .i64 2, .func (.func 30) #[] #[], .int .i64 2, .func (.func 31) #[] #[], .int .i64 2, .func (.func 32) #[] #[], .int .i64 4, .func (.func 33) #[] #[], .int .i64 4, .func (.func 34) #[] #[], .int .i64 4, .func (.func 35) #[] #[], .int .i64 4, .func (.func 36) #[] #[]]) (.int .i64 0)).run Try.prog w = .ok (.agg #[.int .i64 1, .func (.func 23) #[] #[]]) w := by kernel_rfl
theorem idx1 (w : World) : (Instr.index 58 (.agg #[.int .i64 1, .func (.func 23) #[] #[], .int .i64 1, .func (.func 26) #[] #[], .int .i64 1, .func (.func 27) #[] #[], .int .i64 2, .func (.func 29) #[] #[], .int .i64 2, .func (.func 30) #[] #[], .int .i64 2, .func (.func 31) #[] #[], .int .i64 2, .func (.func 32) #[] #[], .int .i64 4, .func (.func 33) #[] #[], .int .i64 4, .func (.func 34) #[] #[], .int .i64 4, .func (.func 35) #[] #[], .int .i64 4, .func (.func 36) #[] #[]]) (.int .i64 1)).run Try.prog w = .ok (.agg #[.int .i64 1, .func (.func 26) #[] #[]]) w := by kernel_rfl
theorem idx2 (w : World) : (Instr.index 58 (.agg #[.int .i64 1, .func (.func 23) #[] #[], .int .i64 1, .func (.func 26) #[] #[], .int .i64 1, .func (.func 27) #[] #[], .int .i64 2, .func (.func 29) #[] #[], .int .i64 2, .func (.func 30) #[] #[], .int .i64 2, .func (.func 31) #[] #[], .int .i64 2, .func (.func 32) #[] #[], .int .i64 4, .func (.func 33) #[] #[], .int .i64 4, .func (.func 34) #[] #[], .int .i64 4, .func (.func 35) #[] #[], .int .i64 4, .func (.func 36) #[] #[]]) (.int .i64 2)).run Try.prog w = .ok (.agg #[.int .i64 1, .func (.func 27) #[] #[]]) w := by kernel_rfl
theorem idx3 (w : World) : (Instr.index 58 (.agg #[.int .i64 1, .func (.func 23) #[] #[], .int .i64 1, .func (.func 26) #[] #[], .int .i64 1, .func (.func 27) #[] #[], .int .i64 2, .func (.func 29) #[] #[], .int .i64 2, .func (.func 30) #[] #[], .int .i64 2, .func (.func 31) #[] #[], .int .i64 2, .func (.func 32) #[] #[], .int .i64 4, .func (.func 33) #[] #[], .int .i64 4, .func (.func 34) #[] #[], .int .i64 4, .func (.func 35) #[] #[], .int .i64 4, .func (.func 36) #[] #[]]) (.int .i64 3)).run Try.prog w = .ok (.agg #[.int .i64 2, .func (.func 29) #[] #[]]) w := by kernel_rfl
theorem idx4 (w : World) : (Instr.index 58 (.agg #[.int .i64 1, .func (.func 23) #[] #[], .int .i64 1, .func (.func 26) #[] #[], .int .i64 1, .func (.func 27) #[] #[], .int .i64 2, .func (.func 29) #[] #[], .int .i64 2, .func (.func 30) #[] #[], .int .i64 2, .func (.func 31) #[] #[], .int .i64 2, .func (.func 32) #[] #[], .int .i64 4, .func (.func 33) #[] #[], .int .i64 4, .func (.func 34) #[] #[], .int .i64 4, .func (.func 35) #[] #[], .int .i64 4, .func (.func 36) #[] #[]]) (.int .i64 4)).run Try.prog w = .ok (.agg #[.int .i64 2, .func (.func 30) #[] #[]]) w := by kernel_rfl
theorem idx5 (w : World) : (Instr.index 58 (.agg #[.int .i64 1, .func (.func 23) #[] #[], .int .i64 1, .func (.func 26) #[] #[], .int .i64 1, .func (.func 27) #[] #[], .int .i64 2, .func (.func 29) #[] #[], .int .i64 2, .func (.func 30) #[] #[], .int .i64 2, .func (.func 31) #[] #[], .int .i64 2, .func (.func 32) #[] #[], .int .i64 4, .func (.func 33) #[] #[], .int .i64 4, .func (.func 34) #[] #[], .int .i64 4, .func (.func 35) #[] #[], .int .i64 4, .func (.func 36) #[] #[]]) (.int .i64 5)).run Try.prog w = .ok (.agg #[.int .i64 2, .func (.func 31) #[] #[]]) w := by kernel_rfl
theorem idx6 (w : World) : (Instr.index 58 (.agg #[.int .i64 1, .func (.func 23) #[] #[], .int .i64 1, .func (.func 26) #[] #[], .int .i64 1, .func (.func 27) #[] #[], .int .i64 2, .func (.func 29) #[] #[], .int .i64 2, .func (.func 30) #[] #[], .int .i64 2, .func (.func 31) #[] #[], .int .i64 2, .func (.func 32) #[] #[], .int .i64 4, .func (.func 33) #[] #[], .int .i64 4, .func (.func 34) #[] #[], .int .i64 4, .func (.func 35) #[] #[], .int .i64 4, .func (.func 36) #[] #[]]) (.int .i64 6)).run Try.prog w = .ok (.agg #[.int .i64 2, .func (.func 32) #[] #[]]) w := by kernel_rfl
theorem idx7 (w : World) : (Instr.index 58 (.agg #[.int .i64 1, .func (.func 23) #[] #[], .int .i64 1, .func (.func 26) #[] #[], .int .i64 1, .func (.func 27) #[] #[], .int .i64 2, .func (.func 29) #[] #[], .int .i64 2, .func (.func 30) #[] #[], .int .i64 2, .func (.func 31) #[] #[], .int .i64 2, .func (.func 32) #[] #[], .int .i64 4, .func (.func 33) #[] #[], .int .i64 4, .func (.func 34) #[] #[], .int .i64 4, .func (.func 35) #[] #[], .int .i64 4, .func (.func 36) #[] #[]]) (.int .i64 7)).run Try.prog w = .ok (.agg #[.int .i64 4, .func (.func 33) #[] #[]]) w := by kernel_rfl
theorem idx8 (w : World) : (Instr.index 58 (.agg #[.int .i64 1, .func (.func 23) #[] #[], .int .i64 1, .func (.func 26) #[] #[], .int .i64 1, .func (.func 27) #[] #[], .int .i64 2, .func (.func 29) #[] #[], .int .i64 2, .func (.func 30) #[] #[], .int .i64 2, .func (.func 31) #[] #[], .int .i64 2, .func (.func 32) #[] #[], .int .i64 4, .func (.func 33) #[] #[], .int .i64 4, .func (.func 34) #[] #[], .int .i64 4, .func (.func 35) #[] #[], .int .i64 4, .func (.func 36) #[] #[]]) (.int .i64 8)).run Try.prog w = .ok (.agg #[.int .i64 4, .func (.func 34) #[] #[]]) w := by kernel_rfl
theorem idx9 (w : World) : (Instr.index 58 (.agg #[.int .i64 1, .func (.func 23) #[] #[], .int .i64 1, .func (.func 26) #[] #[], .int .i64 1, .func (.func 27) #[] #[], .int .i64 2, .func (.func 29) #[] #[], .int .i64 2, .func (.func 30) #[] #[], .int .i64 2, .func (.func 31) #[] #[], .int .i64 2, .func (.func 32) #[] #[], .int .i64 4, .func (.func 33) #[] #[], .int .i64 4, .func (.func 34) #[] #[], .int .i64 4, .func (.func 35) #[] #[], .int .i64 4, .func (.func 36) #[] #[]]) (.int .i64 9)).run Try.prog w = .ok (.agg #[.int .i64 4, .func (.func 35) #[] #[]]) w := by kernel_rfl
theorem idx10 (w : World) : (Instr.index 58 (.agg #[.int .i64 1, .func (.func 23) #[] #[], .int .i64 1, .func (.func 26) #[] #[], .int .i64 1, .func (.func 27) #[] #[], .int .i64 2, .func (.func 29) #[] #[], .int .i64 2, .func (.func 30) #[] #[], .int .i64 2, .func (.func 31) #[] #[], .int .i64 2, .func (.func 32) #[] #[], .int .i64 4, .func (.func 33) #[] #[], .int .i64 4, .func (.func 34) #[] #[], .int .i64 4, .func (.func 35) #[] #[], .int .i64 4, .func (.func 36) #[] #[]]) (.int .i64 10)).run Try.prog w = .ok (.agg #[.int .i64 4, .func (.func 36) #[] #[]]) w := by kernel_rfl

theorem FusedAt.next {x y : Ins} {set : Int} {w wr w1 : World} {j : Int} {s : Int} {r : Ins → Ins → Option (List Ins)} (h : FusedAt x y set w wr j) (_ : 0 ≤ j) (hd : rulesL.drop j.toNat = (s, r) :: rulesL.drop (j + 1).toNat)
    (hs : (bits .and .i64 set s == 0) = true ∨ r x y = none) (hb : Below wr.heap.size wr w1) : FusedAt x y set w w1 (j + 1) := by
  obtain ⟨h1, h2, h3, h4⟩ := h
  refine ⟨?_, h2.trans (hb.mono h2.size), h3.below hb h3.lt, h4.below hb h4.lt⟩
  rw [h1, hd, fusedF]
  rcases hs with hs | hs
  · rw [if_pos hs]
  · split
    · rfl
    · rw [hs]
theorem FusedAt.some {x y : Ins} {set : Int} {w wr : World} {j : Int} {s : Int} {r : Ins → Ins → Option (List Ins)} {l : List Ins} (h : FusedAt x y set w wr j) (hd : rulesL.drop j.toNat = (s, r) :: rulesL.drop (j + 1).toNat)
    (hs : (bits .and .i64 set s == 0) = false) (hr : r x y = some l) : fuse x y set = some l := by
  rw [h.1, hd, fusedF, if_neg (by rw [hs]; simp), hr]

set_option maxRecDepth 100000 in
set_option maxHeartbeats 4000000 in
theorem fused_any (x y : Ins) (set : Int) (w : World) : Calls Try.prog 16 #[.agg ruleCells, .agg x.cells, .agg y.cells, .int .i64 set] w (RuleRes (fuse x y set) w) := by
  unfold ruleCells
  simp only [Ins.cells]
  go_enter Try.func16, Try.ntmps16
  go_wp2_with (refine wpList_load_row rfl 58 _ rfl w.heap.size rfl 58 #[.int .i64 1, .func (.func 23) #[] #[], .int .i64 1, .func (.func 26) #[] #[], .int .i64 1, .func (.func 27) #[] #[], .int .i64 2, .func (.func 29) #[] #[], .int .i64 2, .func (.func 30) #[] #[], .int .i64 2, .func (.func 31) #[] #[], .int .i64 2, .func (.func 32) #[] #[], .int .i64 4, .func (.func 33) #[] #[], .int .i64 4, .func (.func 34) #[] #[], .int .i64 4, .func (.func 35) #[] #[], .int .i64 4, .func (.func 36) #[] #[]] (0, 0) _ (((Blk.new w _ _).alloc _).alloc _) Try.underlying58 rfl (by kernel_rfl) ?_)
  go_loopw [15] (fun i wr => ∃ j : Int, 0 ≤ j ∧ j ≤ 11 ∧ i = .int .i64 j ∧ FusedAt x y set w wr j) (fun i _ => 11 - (intOf i).toNat)
  case atStart =>
    exact ⟨0, by omega, by omega, rfl, rfl, (((Below.refl _ _).alloc (Nat.le_refl _) _).alloc (by simp) _).alloc (by simp; omega) _, by have := (Blk.new (w.alloc (.cells #[.int .i64 1, .func (.func 23) #[] #[], .int .i64 1, .func (.func 26) #[] #[], .int .i64 1, .func (.func 27) #[] #[], .int .i64 2, .func (.func 29) #[] #[], .int .i64 2, .func (.func 30) #[] #[], .int .i64 2, .func (.func 31) #[] #[], .int .i64 2, .func (.func 32) #[] #[], .int .i64 4, .func (.func 33) #[] #[], .int .i64 4, .func (.func 34) #[] #[], .int .i64 4, .func (.func 35) #[] #[], .int .i64 4, .func (.func 36) #[] #[]] 58)) 44 x.cells).alloc (.cells y.cells 44); simpa [Ins.cells] using this, by have := (Blk.new ((w.alloc (.cells #[.int .i64 1, .func (.func 23) #[] #[], .int .i64 1, .func (.func 26) #[] #[], .int .i64 1, .func (.func 27) #[] #[], .int .i64 2, .func (.func 29) #[] #[], .int .i64 2, .func (.func 30) #[] #[], .int .i64 2, .func (.func 31) #[] #[], .int .i64 2, .func (.func 32) #[] #[], .int .i64 4, .func (.func 33) #[] #[], .int .i64 4, .func (.func 34) #[] #[], .int .i64 4, .func (.func 35) #[] #[], .int .i64 4, .func (.func 36) #[] #[]] 58)).alloc (.cells x.cells 44)) 44 y.cells); simpa [Ins.cells] using this⟩
  case round =>
    obtain ⟨j, hj0, hj1, rfl, hF⟩ := hrel
    have g1 := hF.2.2.1.lt
    have g2 := hF.2.2.2.lt
    have g0 : w.heap.size ≤ wr.heap.size := hF.2.1.size
    obtain ⟨x0, x1, x2, x3, x4⟩ := hF.2.2.1.ins
    obtain ⟨y0, y1, y2, y3, y4⟩ := hF.2.2.2.ins
    have HF := Lib.hid hF; clear hF
    rcases (by omega : j = 11 ∨ j = 0 ∨ j = 1 ∨ j = 2 ∨ j = 3 ∨ j = 4 ∨ j = 5 ∨ j = 6 ∨ j = 7 ∨ j = 8 ∨ j = 9 ∨ j = 10) with rfl | rfl | rfl | rfl | rfl | rfl | rfl | rfl | rfl | rfl | rfl | rfl
    · go_wp2
      go_ret2
      refine ⟨HF.out.2.1, ?_⟩
      rw [HF.out.1]
      rfl
    · have hi := idx0
      have hd : rulesL.drop (0 : Int).toNat = (1, rule1) :: rulesL.drop ((0 : Int) + 1).toNat := rfl
      by_cases hs : (bits .and .i64 set 1 == 0) = true
      · go_wp2
        go_roundw
        case rel => exact ⟨1, by omega, by omega, rfl, HF.out.next (by omega) hd (.inl hs) ((Below.refl _ _).alloc (Nat.le_refl _) _)⟩
        case measure => simp [intOf]
      · replace hs : (bits .and .i64 set 1 == 0) = false := by simpa using hs
        rcases hr : rule1 x y with _ | _ | ⟨i, t⟩
        · have Hr := Lib.hid hr; clear hr
          go_wp2_with (go_at_call 23; refine (rr_none Hr.out (rule1_any x y _)).mono ?_; rintro e w1 ⟨rfl, hb⟩)
          go_roundw
          case rel => exact ⟨1, by omega, by omega, rfl, HF.out.next (by omega) hd (.inr Hr.out) (((Below.refl _ _).alloc (Nat.le_refl _) _).trans (hb.mono (by simp)))⟩
          case measure => simp [intOf]
        · have Hr := Lib.hid hr; clear hr
          go_wp2_with (go_at_call 23; refine (rr_nil Hr.out (rule1_any x y _)).mono ?_; rintro e w1 ⟨rfl, hb⟩)
          go_ret2
          refine ⟨HF.out.2.1.trans (((Below.refl _ _).alloc g0 _).trans (hb.mono (by simp; omega))), ?_⟩
          rw [HF.out.some hd hs Hr.out]
          rfl
        · have Hr := Lib.hid hr; clear hr
          go_wp2_with (go_at_call 23; refine (rr_one Hr.out (rule1_any x y _)).mono ?_; rintro e w1 ⟨g, rfl, hg, hc, hb⟩)
          go_ret2
          refine ⟨HF.out.2.1.trans (((Below.refl _ _).alloc g0 _).trans (hb.mono (by simp; omega))), ?_⟩
          rw [HF.out.some hd hs Hr.out]
          exact ⟨g, rfl, by simp at hg; omega, hc⟩
    · have hi := idx1
      have hd : rulesL.drop (1 : Int).toNat = (1, rule2) :: rulesL.drop ((1 : Int) + 1).toNat := rfl
      by_cases hs : (bits .and .i64 set 1 == 0) = true
      · go_wp2
        go_roundw
        case rel => exact ⟨2, by omega, by omega, rfl, HF.out.next (by omega) hd (.inl hs) ((Below.refl _ _).alloc (Nat.le_refl _) _)⟩
        case measure => simp [intOf]
      · replace hs : (bits .and .i64 set 1 == 0) = false := by simpa using hs
        rcases hr : rule2 x y with _ | _ | ⟨i, t⟩
        · have Hr := Lib.hid hr; clear hr
          go_wp2_with (go_at_call 26; refine (rr_none Hr.out (rule2_any x y _)).mono ?_; rintro e w1 ⟨rfl, hb⟩)
          go_roundw
          case rel => exact ⟨2, by omega, by omega, rfl, HF.out.next (by omega) hd (.inr Hr.out) (((Below.refl _ _).alloc (Nat.le_refl _) _).trans (hb.mono (by simp)))⟩
          case measure => simp [intOf]
        · have Hr := Lib.hid hr; clear hr
          go_wp2_with (go_at_call 26; refine (rr_nil Hr.out (rule2_any x y _)).mono ?_; rintro e w1 ⟨rfl, hb⟩)
          go_ret2
          refine ⟨HF.out.2.1.trans (((Below.refl _ _).alloc g0 _).trans (hb.mono (by simp; omega))), ?_⟩
          rw [HF.out.some hd hs Hr.out]
          rfl
        · have Hr := Lib.hid hr; clear hr
          go_wp2_with (go_at_call 26; refine (rr_one Hr.out (rule2_any x y _)).mono ?_; rintro e w1 ⟨g, rfl, hg, hc, hb⟩)
          go_ret2
          refine ⟨HF.out.2.1.trans (((Below.refl _ _).alloc g0 _).trans (hb.mono (by simp; omega))), ?_⟩
          rw [HF.out.some hd hs Hr.out]
          exact ⟨g, rfl, by simp at hg; omega, hc⟩
    · have hi := idx2
      have hd : rulesL.drop (2 : Int).toNat = (1, rule3) :: rulesL.drop ((2 : Int) + 1).toNat := rfl
      by_cases hs : (bits .and .i64 set 1 == 0) = true
      · go_wp2
        go_roundw
        case rel => exact ⟨3, by omega, by omega, rfl, HF.out.next (by omega) hd (.inl hs) ((Below.refl _ _).alloc (Nat.le_refl _) _)⟩
        case measure => simp [intOf]
      · replace hs : (bits .and .i64 set 1 == 0) = false := by simpa using hs
        rcases hr : rule3 x y with _ | _ | ⟨i, t⟩
        · have Hr := Lib.hid hr; clear hr
          go_wp2_with (go_at_call 27; refine (rr_none Hr.out (rule3_any x y _)).mono ?_; rintro e w1 ⟨rfl, hb⟩)
          go_roundw
          case rel => exact ⟨3, by omega, by omega, rfl, HF.out.next (by omega) hd (.inr Hr.out) (((Below.refl _ _).alloc (Nat.le_refl _) _).trans (hb.mono (by simp)))⟩
          case measure => simp [intOf]
        · have Hr := Lib.hid hr; clear hr
          go_wp2_with (go_at_call 27; refine (rr_nil Hr.out (rule3_any x y _)).mono ?_; rintro e w1 ⟨rfl, hb⟩)
          go_ret2
          refine ⟨HF.out.2.1.trans (((Below.refl _ _).alloc g0 _).trans (hb.mono (by simp; omega))), ?_⟩
          rw [HF.out.some hd hs Hr.out]
          rfl
        · have Hr := Lib.hid hr; clear hr
          go_wp2_with (go_at_call 27; refine (rr_one Hr.out (rule3_any x y _)).mono ?_; rintro e w1 ⟨g, rfl, hg, hc, hb⟩)
          go_ret2
          refine ⟨HF.out.2.1.trans (((Below.refl _ _).alloc g0 _).trans (hb.mono (by simp; omega))), ?_⟩
          rw [HF.out.some hd hs Hr.out]
          exact ⟨g, rfl, by simp at hg; omega, hc⟩
    · have hi := idx3
      have hd : rulesL.drop (3 : Int).toNat = (2, rule4) :: rulesL.drop ((3 : Int) + 1).toNat := rfl
      by_cases hs : (bits .and .i64 set 2 == 0) = true
      · go_wp2
        go_roundw
        case rel => exact ⟨4, by omega, by omega, rfl, HF.out.next (by omega) hd (.inl hs) ((Below.refl _ _).alloc (Nat.le_refl _) _)⟩
        case measure => simp [intOf]
      · replace hs : (bits .and .i64 set 2 == 0) = false := by simpa using hs
        rcases hr : rule4 x y with _ | _ | ⟨i, t⟩
        · have Hr := Lib.hid hr; clear hr
          go_wp2_with (go_at_call 29; refine (rr_none Hr.out (rule4_any x y _)).mono ?_; rintro e w1 ⟨rfl, hb⟩)
          go_roundw
          case rel => exact ⟨4, by omega, by omega, rfl, HF.out.next (by omega) hd (.inr Hr.out) (((Below.refl _ _).alloc (Nat.le_refl _) _).trans (hb.mono (by simp)))⟩
          case measure => simp [intOf]
        · have Hr := Lib.hid hr; clear hr
          go_wp2_with (go_at_call 29; refine (rr_nil Hr.out (rule4_any x y _)).mono ?_; rintro e w1 ⟨rfl, hb⟩)
          go_ret2
          refine ⟨HF.out.2.1.trans (((Below.refl _ _).alloc g0 _).trans (hb.mono (by simp; omega))), ?_⟩
          rw [HF.out.some hd hs Hr.out]
          rfl
        · have Hr := Lib.hid hr; clear hr
          go_wp2_with (go_at_call 29; refine (rr_one Hr.out (rule4_any x y _)).mono ?_; rintro e w1 ⟨g, rfl, hg, hc, hb⟩)
          go_ret2
          refine ⟨HF.out.2.1.trans (((Below.refl _ _).alloc g0 _).trans (hb.mono (by simp; omega))), ?_⟩
          rw [HF.out.some hd hs Hr.out]
          exact ⟨g, rfl, by simp at hg; omega, hc⟩
    · have hi := idx4
      have hd : rulesL.drop (4 : Int).toNat = (2, rule5) :: rulesL.drop ((4 : Int) + 1).toNat := rfl
      by_cases hs : (bits .and .i64 set 2 == 0) = true
      · go_wp2
        go_roundw
        case rel => exact ⟨5, by omega, by omega, rfl, HF.out.next (by omega) hd (.inl hs) ((Below.refl _ _).alloc (Nat.le_refl _) _)⟩
        case measure => simp [intOf]
      · replace hs : (bits .and .i64 set 2 == 0) = false := by simpa using hs
        rcases hr : rule5 x y with _ | _ | ⟨i, t⟩
        · have Hr := Lib.hid hr; clear hr
          go_wp2_with (go_at_call 30; refine (rr_none Hr.out (rule5_any x y _)).mono ?_; rintro e w1 ⟨rfl, hb⟩)
          go_roundw
          case rel => exact ⟨5, by omega, by omega, rfl, HF.out.next (by omega) hd (.inr Hr.out) (((Below.refl _ _).alloc (Nat.le_refl _) _).trans (hb.mono (by simp)))⟩
          case measure => simp [intOf]
        · have Hr := Lib.hid hr; clear hr
          go_wp2_with (go_at_call 30; refine (rr_nil Hr.out (rule5_any x y _)).mono ?_; rintro e w1 ⟨rfl, hb⟩)
          go_ret2
          refine ⟨HF.out.2.1.trans (((Below.refl _ _).alloc g0 _).trans (hb.mono (by simp; omega))), ?_⟩
          rw [HF.out.some hd hs Hr.out]
          rfl
        · have Hr := Lib.hid hr; clear hr
          go_wp2_with (go_at_call 30; refine (rr_one Hr.out (rule5_any x y _)).mono ?_; rintro e w1 ⟨g, rfl, hg, hc, hb⟩)
          go_ret2
          refine ⟨HF.out.2.1.trans (((Below.refl _ _).alloc g0 _).trans (hb.mono (by simp; omega))), ?_⟩
          rw [HF.out.some hd hs Hr.out]
          exact ⟨g, rfl, by simp at hg; omega, hc⟩
    · have hi := idx5
      have hd : rulesL.drop (5 : Int).toNat = (2, rule6) :: rulesL.drop ((5 : Int) + 1).toNat := rfl
      by_cases hs : (bits .and .i64 set 2 == 0) = true
      · go_wp2
        go_roundw
        case rel => exact ⟨6, by omega, by omega, rfl, HF.out.next (by omega) hd (.inl hs) ((Below.refl _ _).alloc (Nat.le_refl _) _)⟩
        case measure => simp [intOf]
      · replace hs : (bits .and .i64 set 2 == 0) = false := by simpa using hs
        rcases hr : rule6 x y with _ | _ | ⟨i, t⟩
        · have Hr := Lib.hid hr; clear hr
          go_wp2_with (go_at_call 31; refine (rr_none Hr.out (rule6_any x y _)).mono ?_; rintro e w1 ⟨rfl, hb⟩)
          go_roundw
          case rel => exact ⟨6, by omega, by omega, rfl, HF.out.next (by omega) hd (.inr Hr.out) (((Below.refl _ _).alloc (Nat.le_refl _) _).trans (hb.mono (by simp)))⟩
          case measure => simp [intOf]
        · have Hr := Lib.hid hr; clear hr
          go_wp2_with (go_at_call 31; refine (rr_nil Hr.out (rule6_any x y _)).mono ?_; rintro e w1 ⟨rfl, hb⟩)
          go_ret2
          refine ⟨HF.out.2.1.trans (((Below.refl _ _).alloc g0 _).trans (hb.mono (by simp; omega))), ?_⟩
          rw [HF.out.some hd hs Hr.out]
          rfl
        · have Hr := Lib.hid hr; clear hr
          go_wp2_with (go_at_call 31; refine (rr_one Hr.out (rule6_any x y _)).mono ?_; rintro e w1 ⟨g, rfl, hg, hc, hb⟩)
          go_ret2
          refine ⟨HF.out.2.1.trans (((Below.refl _ _).alloc g0 _).trans (hb.mono (by simp; omega))), ?_⟩
          rw [HF.out.some hd hs Hr.out]
          exact ⟨g, rfl, by simp at hg; omega, hc⟩
    · have hi := idx6
      have hd : rulesL.drop (6 : Int).toNat = (2, rule7) :: rulesL.drop ((6 : Int) + 1).toNat := rfl
      by_cases hs : (bits .and .i64 set 2 == 0) = true
      · go_wp2
        go_roundw
        case rel => exact ⟨7, by omega, by omega, rfl, HF.out.next (by omega) hd (.inl hs) ((Below.refl _ _).alloc (Nat.le_refl _) _)⟩
        case measure => simp [intOf]
      · replace hs : (bits .and .i64 set 2 == 0) = false := by simpa using hs
        rcases hr : rule7 x y with _ | _ | ⟨i, t⟩
        · have Hr := Lib.hid hr; clear hr
          go_wp2_with (go_at_call 32; refine (rr_none Hr.out (rule7_any x y _)).mono ?_; rintro e w1 ⟨rfl, hb⟩)
          go_roundw
          case rel => exact ⟨7, by omega, by omega, rfl, HF.out.next (by omega) hd (.inr Hr.out) (((Below.refl _ _).alloc (Nat.le_refl _) _).trans (hb.mono (by simp)))⟩
          case measure => simp [intOf]
        · have Hr := Lib.hid hr; clear hr
          go_wp2_with (go_at_call 32; refine (rr_nil Hr.out (rule7_any x y _)).mono ?_; rintro e w1 ⟨rfl, hb⟩)
          go_ret2
          refine ⟨HF.out.2.1.trans (((Below.refl _ _).alloc g0 _).trans (hb.mono (by simp; omega))), ?_⟩
          rw [HF.out.some hd hs Hr.out]
          rfl
        · have Hr := Lib.hid hr; clear hr
          go_wp2_with (go_at_call 32; refine (rr_one Hr.out (rule7_any x y _)).mono ?_; rintro e w1 ⟨g, rfl, hg, hc, hb⟩)
          go_ret2
          refine ⟨HF.out.2.1.trans (((Below.refl _ _).alloc g0 _).trans (hb.mono (by simp; omega))), ?_⟩
          rw [HF.out.some hd hs Hr.out]
          exact ⟨g, rfl, by simp at hg; omega, hc⟩
    · have hi := idx7
      have hd : rulesL.drop (7 : Int).toNat = (4, rule8) :: rulesL.drop ((7 : Int) + 1).toNat := rfl
      by_cases hs : (bits .and .i64 set 4 == 0) = true
      · go_wp2
        go_roundw
        case rel => exact ⟨8, by omega, by omega, rfl, HF.out.next (by omega) hd (.inl hs) ((Below.refl _ _).alloc (Nat.le_refl _) _)⟩
        case measure => simp [intOf]
      · replace hs : (bits .and .i64 set 4 == 0) = false := by simpa using hs
        rcases hr : rule8 x y with _ | _ | ⟨i, t⟩
        · have Hr := Lib.hid hr; clear hr
          go_wp2_with (go_at_call 33; refine (rr_none Hr.out (rule8_any x y _)).mono ?_; rintro e w1 ⟨rfl, hb⟩)
          go_roundw
          case rel => exact ⟨8, by omega, by omega, rfl, HF.out.next (by omega) hd (.inr Hr.out) (((Below.refl _ _).alloc (Nat.le_refl _) _).trans (hb.mono (by simp)))⟩
          case measure => simp [intOf]
        · have Hr := Lib.hid hr; clear hr
          go_wp2_with (go_at_call 33; refine (rr_nil Hr.out (rule8_any x y _)).mono ?_; rintro e w1 ⟨rfl, hb⟩)
          go_ret2
          refine ⟨HF.out.2.1.trans (((Below.refl _ _).alloc g0 _).trans (hb.mono (by simp; omega))), ?_⟩
          rw [HF.out.some hd hs Hr.out]
          rfl
        · have Hr := Lib.hid hr; clear hr
          go_wp2_with (go_at_call 33; refine (rr_one Hr.out (rule8_any x y _)).mono ?_; rintro e w1 ⟨g, rfl, hg, hc, hb⟩)
          go_ret2
          refine ⟨HF.out.2.1.trans (((Below.refl _ _).alloc g0 _).trans (hb.mono (by simp; omega))), ?_⟩
          rw [HF.out.some hd hs Hr.out]
          exact ⟨g, rfl, by simp at hg; omega, hc⟩
    · have hi := idx8
      have hd : rulesL.drop (8 : Int).toNat = (4, rule9) :: rulesL.drop ((8 : Int) + 1).toNat := rfl
      by_cases hs : (bits .and .i64 set 4 == 0) = true
      · go_wp2
        go_roundw
        case rel => exact ⟨9, by omega, by omega, rfl, HF.out.next (by omega) hd (.inl hs) ((Below.refl _ _).alloc (Nat.le_refl _) _)⟩
        case measure => simp [intOf]
      · replace hs : (bits .and .i64 set 4 == 0) = false := by simpa using hs
        rcases hr : rule9 x y with _ | _ | ⟨i, t⟩
        · have Hr := Lib.hid hr; clear hr
          go_wp2_with (go_at_call 34; refine (rr_none Hr.out (rule9_any x y _)).mono ?_; rintro e w1 ⟨rfl, hb⟩)
          go_roundw
          case rel => exact ⟨9, by omega, by omega, rfl, HF.out.next (by omega) hd (.inr Hr.out) (((Below.refl _ _).alloc (Nat.le_refl _) _).trans (hb.mono (by simp)))⟩
          case measure => simp [intOf]
        · have Hr := Lib.hid hr; clear hr
          go_wp2_with (go_at_call 34; refine (rr_nil Hr.out (rule9_any x y _)).mono ?_; rintro e w1 ⟨rfl, hb⟩)
          go_ret2
          refine ⟨HF.out.2.1.trans (((Below.refl _ _).alloc g0 _).trans (hb.mono (by simp; omega))), ?_⟩
          rw [HF.out.some hd hs Hr.out]
          rfl
        · have Hr := Lib.hid hr; clear hr
          go_wp2_with (go_at_call 34; refine (rr_one Hr.out (rule9_any x y _)).mono ?_; rintro e w1 ⟨g, rfl, hg, hc, hb⟩)
          go_ret2
          refine ⟨HF.out.2.1.trans (((Below.refl _ _).alloc g0 _).trans (hb.mono (by simp; omega))), ?_⟩
          rw [HF.out.some hd hs Hr.out]
          exact ⟨g, rfl, by simp at hg; omega, hc⟩
    · have hi := idx9
      have hd : rulesL.drop (9 : Int).toNat = (4, rule10) :: rulesL.drop ((9 : Int) + 1).toNat := rfl
      by_cases hs : (bits .and .i64 set 4 == 0) = true
      · go_wp2
        go_roundw
        case rel => exact ⟨10, by omega, by omega, rfl, HF.out.next (by omega) hd (.inl hs) ((Below.refl _ _).alloc (Nat.le_refl _) _)⟩
        case measure => simp [intOf]
      · replace hs : (bits .and .i64 set 4 == 0) = false := by simpa using hs
        rcases hr : rule10 x y with _ | _ | ⟨i, t⟩
        · have Hr := Lib.hid hr; clear hr
          go_wp2_with (go_at_call 35; refine (rr_none Hr.out (rule10_any x y _)).mono ?_; rintro e w1 ⟨rfl, hb⟩)
          go_roundw
          case rel => exact ⟨10, by omega, by omega, rfl, HF.out.next (by omega) hd (.inr Hr.out) (((Below.refl _ _).alloc (Nat.le_refl _) _).trans (hb.mono (by simp)))⟩
          case measure => simp [intOf]
        · have Hr := Lib.hid hr; clear hr
          go_wp2_with (go_at_call 35; refine (rr_nil Hr.out (rule10_any x y _)).mono ?_; rintro e w1 ⟨rfl, hb⟩)
          go_ret2
          refine ⟨HF.out.2.1.trans (((Below.refl _ _).alloc g0 _).trans (hb.mono (by simp; omega))), ?_⟩
          rw [HF.out.some hd hs Hr.out]
          rfl
        · have Hr := Lib.hid hr; clear hr
          go_wp2_with (go_at_call 35; refine (rr_one Hr.out (rule10_any x y _)).mono ?_; rintro e w1 ⟨g, rfl, hg, hc, hb⟩)
          go_ret2
          refine ⟨HF.out.2.1.trans (((Below.refl _ _).alloc g0 _).trans (hb.mono (by simp; omega))), ?_⟩
          rw [HF.out.some hd hs Hr.out]
          exact ⟨g, rfl, by simp at hg; omega, hc⟩
    · have hi := idx10
      have hd : rulesL.drop (10 : Int).toNat = (4, rule11) :: rulesL.drop ((10 : Int) + 1).toNat := rfl
      by_cases hs : (bits .and .i64 set 4 == 0) = true
      · go_wp2
        go_roundw
        case rel => exact ⟨11, by omega, by omega, rfl, HF.out.next (by omega) hd (.inl hs) ((Below.refl _ _).alloc (Nat.le_refl _) _)⟩
        case measure => simp [intOf]
      · replace hs : (bits .and .i64 set 4 == 0) = false := by simpa using hs
        rcases hr : rule11 x y with _ | _ | ⟨i, t⟩
        · have Hr := Lib.hid hr; clear hr
          go_wp2_with (go_at_call 36; refine (rr_none Hr.out (rule11_any x y _)).mono ?_; rintro e w1 ⟨rfl, hb⟩)
          go_roundw
          case rel => exact ⟨11, by omega, by omega, rfl, HF.out.next (by omega) hd (.inr Hr.out) (((Below.refl _ _).alloc (Nat.le_refl _) _).trans (hb.mono (by simp)))⟩
          case measure => simp [intOf]
        · have Hr := Lib.hid hr; clear hr
          go_wp2_with (go_at_call 36; refine (rr_nil Hr.out (rule11_any x y _)).mono ?_; rintro e w1 ⟨rfl, hb⟩)
          go_ret2
          refine ⟨HF.out.2.1.trans (((Below.refl _ _).alloc g0 _).trans (hb.mono (by simp; omega))), ?_⟩
          rw [HF.out.some hd hs Hr.out]
          rfl
        · have Hr := Lib.hid hr; clear hr
          go_wp2_with (go_at_call 36; refine (rr_one Hr.out (rule11_any x y _)).mono ?_; rintro e w1 ⟨g, rfl, hg, hc, hb⟩)
          go_ret2
          refine ⟨HF.out.2.1.trans (((Below.refl _ _).alloc g0 _).trans (hb.mono (by simp; omega))), ?_⟩
          rw [HF.out.some hd hs Hr.out]
          exact ⟨g, rfl, by simp at hg; omega, hc⟩
end Go.Proofs.Ytanaccoelifcpaa
