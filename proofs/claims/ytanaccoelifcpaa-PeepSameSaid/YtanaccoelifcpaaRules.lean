/- The eleven rules of peep.rules, each called with any two instructions: what it answers; nothing that was there turns. -/
import Derived.Test.YtanaccoelifcpaaIns
import Derived.Test.YtanaccoelifcpaaKit
namespace Go.Proofs.Ytanaccoelifcpaa
open Go.RowKit

/-- What a rule's call comes to: no fit; fit, and nothing; fit, and one instruction in a new block. -/
def RuleRes (r : Option (List Ins)) (w : World) (e : Ending) (w' : World) : Prop :=
  Below w.heap.size w w' ∧ (match r with
    | none => e = .returned (.tuple #[.slice none 0 0, .bool false])
    | some [] => e = .returned (.tuple #[.slice none 0 0, .bool true])
    | some (i :: _) => ∃ g, e = .returned (.tuple #[.slice (some ⟨g, 0, none⟩) 1 1, .bool true]) ∧ w.heap.size ≤ g ∧ w'.heap[g]? = some (.cells i.cells 44 (0, 0)))

set_option maxHeartbeats 400000 in
theorem ops_any (x y : Ins) (a b : Int) (w : World) :
    Calls Try.prog 25 #[.agg x.cells, .agg y.cells, .int .i64 a, .int .i64 b] w fun e w' => e = .returned (.bool (x.op == a && y.op == b)) ∧ Below w.heap.size w w' := by
  unfold Ins.cells
  by_cases h : x.op = a
  all_goals
    go_enter Try.func25, Try.ntmps25
    go_wp2
    go_ret
    exact ⟨by simp [h], ((Below.refl _ _).alloc (Nat.le_refl _) _).alloc (by simp) _⟩
theorem ops_yes {x y : Ins} {a b : Int} (h1 : x.op = a) (h2 : y.op = b) (w : World) :
    Calls Try.prog 25 #[.agg x.cells, .agg y.cells, .int .i64 a, .int .i64 b] w fun e w' => e = .returned (.bool true) ∧ Below w.heap.size w w' := by
  have := ops_any x y a b w
  rwa [h1, h2, show (a == a && b == b) = true by simp] at this
theorem ops_no {x y : Ins} {a b : Int} (h : ¬ (x.op = a ∧ y.op = b)) (w : World) :
    Calls Try.prog 25 #[.agg x.cells, .agg y.cells, .int .i64 a, .int .i64 b] w fun e w' => e = .returned (.bool false) ∧ Below w.heap.size w w' := by
  have := ops_any x y a b w
  rwa [show (x.op == a && y.op == b) = false by rw [Bool.and_eq_false_iff]; by_cases h1 : x.op = a <;> simp_all] at this
set_option maxHeartbeats 400000 in
theorem only_yes (x : Ins) (w : World) :
    Calls Try.prog 24 #[.agg x.cells, .bool true] w fun e w' => ∃ g, e = .returned (.tuple #[.slice (some ⟨g, 0, none⟩) 1 1, .bool true]) ∧ w.heap.size ≤ g ∧ w'.heap[g]? = some (.cells x.cells 44 (0, 0)) ∧ Below w.heap.size w w' := by
  unfold Ins.cells
  go_enter Try.func24, Try.ntmps24
  go_wp2
  go_ret2
  exact ⟨_, rfl, by simp, by rw [← World.size_alloc w (.cells #[.int .i64 x.op, .string x.path, .string x.dst, .int .i64 x.mode, .int .i64 x.ref] 44)]; exact heap_alloc_new _ _, ((Below.refl _ _).alloc (Nat.le_refl _) _).alloc (by simp) _⟩
set_option maxHeartbeats 400000 in
theorem only_no (x : Ins) (w : World) :
    Calls Try.prog 24 #[.agg x.cells, .bool false] w fun e w' => e = .returned (.tuple #[.slice none 0 0, .bool false]) ∧ Below w.heap.size w w' := by
  unfold Ins.cells
  go_enter Try.func24, Try.ntmps24
  go_wp2
  go_ret2
  exact ⟨rfl, ((Below.refl _ _).alloc (Nat.le_refl _) _)⟩
set_option maxHeartbeats 400000 in
theorem nothing_any (b : Bool) (w : World) :
    Calls Try.prog 28 #[.bool b] w fun e w' => e = .returned (.tuple #[.slice none 0 0, .bool b]) ∧ Below w.heap.size w w' := by
  go_enter Try.func28, Try.ntmps28
  go_wp2
  go_ret2
  exact ⟨rfl, Below.refl _ _⟩

def rule1 (x y : Ins) : Option (List Ins) := if x.op = 4 ∧ y.op = 5 ∧ x.path = y.path then some [⟨3, x.path, x.dst, 0, 0⟩] else none
set_option maxHeartbeats 1000000 in
theorem rule1_ops {x y : Ins} (w : World) (h0 : ¬ (x.op = 4 ∧ y.op = 5)) : Calls Try.prog 23 #[.agg x.cells, .agg y.cells] w (RuleRes (rule1 x y) w) := by
  have hr : rule1 x y = none := by unfold rule1; rw [if_neg]; rintro ⟨a, b, c⟩; exact h0 ⟨a, b⟩
  have ho := ops_no h0
  have hn := only_no ⟨3, x.path, x.dst, 0, 0⟩
  obtain ⟨xo, xp, xt, xm, xr⟩ := x
  obtain ⟨yo, yp, yt, ym, yr⟩ := y
  simp only [Ins.cells] at *
  have Hr := Lib.hid hr; clear hr
  have Ho := Lib.hid ho; clear ho
  have Hn := Lib.hid hn; clear hn
  clear h0
  go_enter Try.func23, Try.ntmps23
  go_upto_region 1 with (fail)
  refine wp_region_ordB (none) [(0, true), (1, true), (2, true), (3, true), (4, true), (5, true), (6, true), (7, false), (8, true), (9, true), (10, true), (11, true), (12, true), (13, true), (14, true), (15, false), (16, true), (17, true), (18, true), (19, true)] (by kernel_rfl) (by kernel_rfl) fun hG0 => ?_
  repeat (first
    | (refine ord_skipB rfl (by rfl) ?_; simp only [Act.put, List.setIfInBounds_toArray, List.set_cons_zero, List.set_cons_succ])
    | (refine ord_qE rfl (by rfl) ?_; apply Exists.intro; refine ⟨fun w' hc' => ?_, ?_⟩; (focus (go_simp; (try go_bits); (try simp only [↓IntWalk.iteOmega]); with_reducible rfl)); simp only [Act.put, List.setIfInBounds_toArray, List.set_cons_zero, List.set_cons_succ]))
  refine ord_eB rfl fun K hK => ?_
  go_wp2_with (go_at_call 25; refine (Ho.out _).mono ?_; rintro e w1 ⟨rfl, hb1⟩)
  have hG1 := grown_trans hG0 (grown_below hb1 (Nat.le_refl _))
  refine hK.out _ _ hG1 ?_
  clear hK K
  repeat (first
    | (refine ord_skipB rfl (by rfl) ?_; simp only [Act.put, List.setIfInBounds_toArray, List.set_cons_zero, List.set_cons_succ])
    | (refine ord_qE rfl (by rfl) ?_; apply Exists.intro; refine ⟨fun w' hc' => ?_, ?_⟩; (focus (go_simp; (try go_bits); (try simp only [↓IntWalk.iteOmega]); with_reducible rfl)); simp only [Act.put, List.setIfInBounds_toArray, List.set_cons_zero, List.set_cons_succ]))
  refine ord_eB rfl fun K hK => ?_
  go_wp2_with (go_at_call 24; refine (Hn.out _).mono ?_; rintro e w2 ⟨rfl, hb2⟩)
  have hG2 := grown_trans hG1 (grown_below hb2 (Nat.le_refl _))
  refine hK.out _ _ hG2 ?_
  clear hK K
  repeat (first
    | (refine ord_skipB rfl (by rfl) ?_; simp only [Act.put, List.setIfInBounds_toArray, List.set_cons_zero, List.set_cons_succ])
    | (refine ord_qE rfl (by rfl) ?_; apply Exists.intro; refine ⟨fun w' hc' => ?_, ?_⟩; (focus (go_simp; (try go_bits); (try simp only [↓IntWalk.iteOmega]); with_reducible rfl)); simp only [Act.put, List.setIfInBounds_toArray, List.set_cons_zero, List.set_cons_succ]))
  refine ord_end ?_
  go_wp2
  go_ret2
  have hB : Below w.heap.size w w2 := (((Below.refl w.heap.size w).alloc (Nat.le_refl _) _).alloc (by simp) _).trans (below_grown hG2 (by simp; omega) (fun g h => by cases h))
  refine ⟨hB, ?_⟩; first | (rw [Hr.out]; rfl) | rw [Hr.out]
set_option maxHeartbeats 1000000 in
theorem rule1_eqno {x y : Ins} (w : World) (h1 : x.op = 4) (h2 : y.op = 5) (h3 : ¬ x.path = y.path) : Calls Try.prog 23 #[.agg x.cells, .agg y.cells] w (RuleRes (rule1 x y) w) := by
  have hr : rule1 x y = none := by unfold rule1; rw [if_neg]; rintro ⟨a, b, c⟩; exact h3 c
  have ho := ops_yes h1 h2
  have hn := only_no ⟨3, x.path, x.dst, 0, 0⟩
  have e3 : (x.path.toList == y.path.toList) = false := by rw [beq_eq_false_iff_ne]; exact fun h => h3 (p18_toList_inj h)
  obtain ⟨xo, xp, xt, xm, xr⟩ := x
  obtain ⟨yo, yp, yt, ym, yr⟩ := y
  simp only [Ins.cells] at *
  have Hr := Lib.hid hr; clear hr
  have Ho := Lib.hid ho; clear ho
  have Hn := Lib.hid hn; clear hn
  clear h1 h2 h3
  go_enter Try.func23, Try.ntmps23
  go_upto_region 1 with (fail)
  refine wp_region_ordB (none) [(0, true), (1, true), (2, true), (3, true), (4, true), (5, true), (6, true), (7, false), (8, true), (9, true), (10, true), (11, true), (12, true), (13, true), (14, true), (15, false), (16, true), (17, true), (18, true), (19, true)] (by kernel_rfl) (by kernel_rfl) fun hG0 => ?_
  repeat (first
    | (refine ord_skipB rfl (by rfl) ?_; simp only [Act.put, List.setIfInBounds_toArray, List.set_cons_zero, List.set_cons_succ])
    | (refine ord_qE rfl (by rfl) ?_; apply Exists.intro; refine ⟨fun w' hc' => ?_, ?_⟩; (focus (go_simp; (try go_bits); (try simp only [↓IntWalk.iteOmega]); with_reducible rfl)); simp only [Act.put, List.setIfInBounds_toArray, List.set_cons_zero, List.set_cons_succ]))
  refine ord_eB rfl fun K hK => ?_
  go_wp2_with (go_at_call 25; refine (Ho.out _).mono ?_; rintro e w1 ⟨rfl, hb1⟩)
  have hG1 := grown_trans hG0 (grown_below hb1 (Nat.le_refl _))
  refine hK.out _ _ hG1 ?_
  clear hK K
  repeat (first
    | (refine ord_skipB rfl (by rfl) ?_; simp only [Act.put, List.setIfInBounds_toArray, List.set_cons_zero, List.set_cons_succ])
    | (refine ord_qE rfl (by rfl) ?_; apply Exists.intro; refine ⟨fun w' hc' => ?_, ?_⟩; (focus (go_simp; (try go_bits); (try simp only [↓IntWalk.iteOmega]); with_reducible rfl)); simp only [Act.put, List.setIfInBounds_toArray, List.set_cons_zero, List.set_cons_succ]))
  refine ord_eB rfl fun K hK => ?_
  go_wp2_with (go_at_call 24; refine (Hn.out _).mono ?_; rintro e w2 ⟨rfl, hb2⟩)
  have hG2 := grown_trans hG1 (grown_below hb2 (Nat.le_refl _))
  refine hK.out _ _ hG2 ?_
  clear hK K
  repeat (first
    | (refine ord_skipB rfl (by rfl) ?_; simp only [Act.put, List.setIfInBounds_toArray, List.set_cons_zero, List.set_cons_succ])
    | (refine ord_qE rfl (by rfl) ?_; apply Exists.intro; refine ⟨fun w' hc' => ?_, ?_⟩; (focus (go_simp; (try go_bits); (try simp only [↓IntWalk.iteOmega]); with_reducible rfl)); simp only [Act.put, List.setIfInBounds_toArray, List.set_cons_zero, List.set_cons_succ]))
  refine ord_end ?_
  go_wp2
  go_ret2
  have hB : Below w.heap.size w w2 := (((Below.refl w.heap.size w).alloc (Nat.le_refl _) _).alloc (by simp) _).trans (below_grown hG2 (by simp; omega) (fun g h => by cases h))
  refine ⟨hB, ?_⟩; first | (rw [Hr.out]; rfl) | rw [Hr.out]
set_option maxHeartbeats 1000000 in
theorem rule1_yes {x y : Ins} (w : World) (h1 : x.op = 4) (h2 : y.op = 5) (h3 : x.path = y.path) : Calls Try.prog 23 #[.agg x.cells, .agg y.cells] w (RuleRes (rule1 x y) w) := by
  have hr : rule1 x y = some [⟨3, x.path, x.dst, 0, 0⟩] := by unfold rule1; rw [if_pos ⟨h1, h2, h3⟩]
  have ho := ops_yes h1 h2
  have hn := only_yes ⟨3, x.path, x.dst, 0, 0⟩
  have e3 : (x.path.toList == y.path.toList) = true := by rw [h3]; simp
  obtain ⟨xo, xp, xt, xm, xr⟩ := x
  obtain ⟨yo, yp, yt, ym, yr⟩ := y
  simp only [Ins.cells] at *
  have Hr := Lib.hid hr; clear hr
  have Ho := Lib.hid ho; clear ho
  have Hn := Lib.hid hn; clear hn
  clear h1 h2 h3
  go_enter Try.func23, Try.ntmps23
  go_upto_region 1 with (fail)
  refine wp_region_ordB (none) [(0, true), (1, true), (2, true), (3, true), (4, true), (5, true), (6, true), (7, false), (8, true), (9, true), (10, true), (11, true), (12, true), (13, true), (14, true), (15, false), (16, true), (17, true), (18, true), (19, true)] (by kernel_rfl) (by kernel_rfl) fun hG0 => ?_
  repeat (first
    | (refine ord_skipB rfl (by rfl) ?_; simp only [Act.put, List.setIfInBounds_toArray, List.set_cons_zero, List.set_cons_succ])
    | (refine ord_qE rfl (by rfl) ?_; apply Exists.intro; refine ⟨fun w' hc' => ?_, ?_⟩; (focus (go_simp; (try go_bits); (try simp only [↓IntWalk.iteOmega]); with_reducible rfl)); simp only [Act.put, List.setIfInBounds_toArray, List.set_cons_zero, List.set_cons_succ]))
  refine ord_eB rfl fun K hK => ?_
  go_wp2_with (go_at_call 25; refine (Ho.out _).mono ?_; rintro e w1 ⟨rfl, hb1⟩)
  have hG1 := grown_trans hG0 (grown_below hb1 (Nat.le_refl _))
  refine hK.out _ _ hG1 ?_
  clear hK K
  repeat (first
    | (refine ord_skipB rfl (by rfl) ?_; simp only [Act.put, List.setIfInBounds_toArray, List.set_cons_zero, List.set_cons_succ])
    | (refine ord_qE rfl (by rfl) ?_; apply Exists.intro; refine ⟨fun w' hc' => ?_, ?_⟩; (focus (go_simp; (try go_bits); (try simp only [↓IntWalk.iteOmega]); with_reducible rfl)); simp only [Act.put, List.setIfInBounds_toArray, List.set_cons_zero, List.set_cons_succ]))
  refine ord_eB rfl fun K hK => ?_
  go_wp2_with (go_at_call 24; refine (Hn.out _).mono ?_; rintro e w2 ⟨g, rfl, hg, hc, hb2⟩)
  have hG2 := grown_trans hG1 (grown_below hb2 (Nat.le_refl _))
  refine hK.out _ _ hG2 ?_
  clear hK K
  repeat (first
    | (refine ord_skipB rfl (by rfl) ?_; simp only [Act.put, List.setIfInBounds_toArray, List.set_cons_zero, List.set_cons_succ])
    | (refine ord_qE rfl (by rfl) ?_; apply Exists.intro; refine ⟨fun w' hc' => ?_, ?_⟩; (focus (go_simp; (try go_bits); (try simp only [↓IntWalk.iteOmega]); with_reducible rfl)); simp only [Act.put, List.setIfInBounds_toArray, List.set_cons_zero, List.set_cons_succ]))
  refine ord_end ?_
  go_wp2
  go_ret2
  have hB : Below w.heap.size w w2 := (((Below.refl w.heap.size w).alloc (Nat.le_refl _) _).alloc (by simp) _).trans (below_grown hG2 (by simp; omega) (fun g h => by cases h))
  refine ⟨hB, ?_⟩; rw [Hr.out]; exact ⟨g, rfl, by have := hb1.size; simp at this; omega, hc⟩
theorem rule1_any (x y : Ins) (w : World) : Calls Try.prog 23 #[.agg x.cells, .agg y.cells] w (RuleRes (rule1 x y) w) := by
  by_cases h0 : x.op = 4 ∧ y.op = 5
  · by_cases h3 : x.path = y.path
    · exact rule1_yes w h0.1 h0.2 h3
    · exact rule1_eqno w h0.1 h0.2 h3
  · exact rule1_ops w h0

def rule2 (x y : Ins) : Option (List Ins) := if x.op = 3 ∧ y.op = 3 ∧ x.dst = y.path ∧ ¬ x.path = y.dst then some [⟨3, x.path, y.dst, 0, 0⟩] else none
set_option maxHeartbeats 1000000 in
theorem rule2_ops {x y : Ins} (w : World) (h0 : ¬ (x.op = 3 ∧ y.op = 3)) : Calls Try.prog 26 #[.agg x.cells, .agg y.cells] w (RuleRes (rule2 x y) w) := by
  have hr : rule2 x y = none := by unfold rule2; rw [if_neg]; rintro ⟨a, b, c, _⟩; exact h0 ⟨a, b⟩
  have ho := ops_no h0
  have hn := only_no ⟨3, x.path, y.dst, 0, 0⟩
  obtain ⟨xo, xp, xt, xm, xr⟩ := x
  obtain ⟨yo, yp, yt, ym, yr⟩ := y
  simp only [Ins.cells] at *
  have Hr := Lib.hid hr; clear hr
  have Ho := Lib.hid ho; clear ho
  have Hn := Lib.hid hn; clear hn
  clear h0
  go_enter Try.func26, Try.ntmps26
  go_upto_region 1 with (fail)
  refine wp_region_ordB (none) [(0, true), (1, true), (2, true), (3, true), (4, true), (5, true), (6, true), (7, false), (8, true), (9, true), (10, true), (11, true), (12, true), (13, true), (14, true), (15, true), (16, true), (17, true), (18, true), (19, true), (20, true), (21, true), (22, false), (23, true), (24, true), (25, true), (26, true)] (by kernel_rfl) (by kernel_rfl) fun hG0 => ?_
  repeat (first
    | (refine ord_skipB rfl (by rfl) ?_; simp only [Act.put, List.setIfInBounds_toArray, List.set_cons_zero, List.set_cons_succ])
    | (refine ord_qE rfl (by rfl) ?_; apply Exists.intro; refine ⟨fun w' hc' => ?_, ?_⟩; (focus (go_simp; (try go_bits); (try simp only [↓IntWalk.iteOmega]); with_reducible rfl)); simp only [Act.put, List.setIfInBounds_toArray, List.set_cons_zero, List.set_cons_succ]))
  refine ord_eB rfl fun K hK => ?_
  go_wp2_with (go_at_call 25; refine (Ho.out _).mono ?_; rintro e w1 ⟨rfl, hb1⟩)
  have hG1 := grown_trans hG0 (grown_below hb1 (Nat.le_refl _))
  refine hK.out _ _ hG1 ?_
  clear hK K
  repeat (first
    | (refine ord_skipB rfl (by rfl) ?_; simp only [Act.put, List.setIfInBounds_toArray, List.set_cons_zero, List.set_cons_succ])
    | (refine ord_qE rfl (by rfl) ?_; apply Exists.intro; refine ⟨fun w' hc' => ?_, ?_⟩; (focus (go_simp; (try go_bits); (try simp only [↓IntWalk.iteOmega]); with_reducible rfl)); simp only [Act.put, List.setIfInBounds_toArray, List.set_cons_zero, List.set_cons_succ]))
  refine ord_eB rfl fun K hK => ?_
  go_wp2_with (go_at_call 24; refine (Hn.out _).mono ?_; rintro e w2 ⟨rfl, hb2⟩)
  have hG2 := grown_trans hG1 (grown_below hb2 (Nat.le_refl _))
  refine hK.out _ _ hG2 ?_
  clear hK K
  repeat (first
    | (refine ord_skipB rfl (by rfl) ?_; simp only [Act.put, List.setIfInBounds_toArray, List.set_cons_zero, List.set_cons_succ])
    | (refine ord_qE rfl (by rfl) ?_; apply Exists.intro; refine ⟨fun w' hc' => ?_, ?_⟩; (focus (go_simp; (try go_bits); (try simp only [↓IntWalk.iteOmega]); with_reducible rfl)); simp only [Act.put, List.setIfInBounds_toArray, List.set_cons_zero, List.set_cons_succ]))
  refine ord_end ?_
  go_wp2
  go_ret2
  have hB : Below w.heap.size w w2 := (((Below.refl w.heap.size w).alloc (Nat.le_refl _) _).alloc (by simp) _).trans (below_grown hG2 (by simp; omega) (fun g h => by cases h))
  refine ⟨hB, ?_⟩; first | (rw [Hr.out]; rfl) | rw [Hr.out]
set_option maxHeartbeats 1000000 in
theorem rule2_eqno {x y : Ins} (w : World) (h1 : x.op = 3) (h2 : y.op = 3) (h3 : ¬ x.dst = y.path) : Calls Try.prog 26 #[.agg x.cells, .agg y.cells] w (RuleRes (rule2 x y) w) := by
  have hr : rule2 x y = none := by unfold rule2; rw [if_neg]; rintro ⟨a, b, c, _⟩; exact h3 c
  have ho := ops_yes h1 h2
  have hn := only_no ⟨3, x.path, y.dst, 0, 0⟩
  have e3 : (x.dst.toList == y.path.toList) = false := by rw [beq_eq_false_iff_ne]; exact fun h => h3 (p18_toList_inj h)
  obtain ⟨xo, xp, xt, xm, xr⟩ := x
  obtain ⟨yo, yp, yt, ym, yr⟩ := y
  simp only [Ins.cells] at *
  have Hr := Lib.hid hr; clear hr
  have Ho := Lib.hid ho; clear ho
  have Hn := Lib.hid hn; clear hn
  clear h1 h2 h3
  go_enter Try.func26, Try.ntmps26
  go_upto_region 1 with (fail)
  refine wp_region_ordB (none) [(0, true), (1, true), (2, true), (3, true), (4, true), (5, true), (6, true), (7, false), (8, true), (9, true), (10, true), (11, true), (12, true), (13, true), (14, true), (15, true), (16, true), (17, true), (18, true), (19, true), (20, true), (21, true), (22, false), (23, true), (24, true), (25, true), (26, true)] (by kernel_rfl) (by kernel_rfl) fun hG0 => ?_
  repeat (first
    | (refine ord_skipB rfl (by rfl) ?_; simp only [Act.put, List.setIfInBounds_toArray, List.set_cons_zero, List.set_cons_succ])
    | (refine ord_qE rfl (by rfl) ?_; apply Exists.intro; refine ⟨fun w' hc' => ?_, ?_⟩; (focus (go_simp; (try go_bits); (try simp only [↓IntWalk.iteOmega]); with_reducible rfl)); simp only [Act.put, List.setIfInBounds_toArray, List.set_cons_zero, List.set_cons_succ]))
  refine ord_eB rfl fun K hK => ?_
  go_wp2_with (go_at_call 25; refine (Ho.out _).mono ?_; rintro e w1 ⟨rfl, hb1⟩)
  have hG1 := grown_trans hG0 (grown_below hb1 (Nat.le_refl _))
  refine hK.out _ _ hG1 ?_
  clear hK K
  repeat (first
    | (refine ord_skipB rfl (by rfl) ?_; simp only [Act.put, List.setIfInBounds_toArray, List.set_cons_zero, List.set_cons_succ])
    | (refine ord_qE rfl (by rfl) ?_; apply Exists.intro; refine ⟨fun w' hc' => ?_, ?_⟩; (focus (go_simp; (try go_bits); (try simp only [↓IntWalk.iteOmega]); with_reducible rfl)); simp only [Act.put, List.setIfInBounds_toArray, List.set_cons_zero, List.set_cons_succ]))
  refine ord_eB rfl fun K hK => ?_
  go_wp2_with (go_at_call 24; refine (Hn.out _).mono ?_; rintro e w2 ⟨rfl, hb2⟩)
  have hG2 := grown_trans hG1 (grown_below hb2 (Nat.le_refl _))
  refine hK.out _ _ hG2 ?_
  clear hK K
  repeat (first
    | (refine ord_skipB rfl (by rfl) ?_; simp only [Act.put, List.setIfInBounds_toArray, List.set_cons_zero, List.set_cons_succ])
    | (refine ord_qE rfl (by rfl) ?_; apply Exists.intro; refine ⟨fun w' hc' => ?_, ?_⟩; (focus (go_simp; (try go_bits); (try simp only [↓IntWalk.iteOmega]); with_reducible rfl)); simp only [Act.put, List.setIfInBounds_toArray, List.set_cons_zero, List.set_cons_succ]))
  refine ord_end ?_
  go_wp2
  go_ret2
  have hB : Below w.heap.size w w2 := (((Below.refl w.heap.size w).alloc (Nat.le_refl _) _).alloc (by simp) _).trans (below_grown hG2 (by simp; omega) (fun g h => by cases h))
  refine ⟨hB, ?_⟩; first | (rw [Hr.out]; rfl) | rw [Hr.out]
set_option maxHeartbeats 1000000 in
theorem rule2_yes {x y : Ins} (w : World) (h1 : x.op = 3) (h2 : y.op = 3) (h3 : x.dst = y.path) (h4 : ¬ x.path = y.dst) : Calls Try.prog 26 #[.agg x.cells, .agg y.cells] w (RuleRes (rule2 x y) w) := by
  have hr : rule2 x y = some [⟨3, x.path, y.dst, 0, 0⟩] := by unfold rule2; rw [if_pos ⟨h1, h2, h3, h4⟩]
  have ho := ops_yes h1 h2
  have hn := only_yes ⟨3, x.path, y.dst, 0, 0⟩
  have e3 : (x.dst.toList == y.path.toList) = true := by rw [h3]; simp
  have e4 : (x.path.toList == y.dst.toList) = false := by rw [beq_eq_false_iff_ne]; exact fun h => h4 (p18_toList_inj h)
  have e5 : (x.path.toList != y.dst.toList) = true := by simp only [bne, e4]; rfl
  obtain ⟨xo, xp, xt, xm, xr⟩ := x
  obtain ⟨yo, yp, yt, ym, yr⟩ := y
  simp only [Ins.cells] at *
  have Hr := Lib.hid hr; clear hr
  have Ho := Lib.hid ho; clear ho
  have Hn := Lib.hid hn; clear hn
  clear h1 h2 h3 h4
  go_enter Try.func26, Try.ntmps26
  go_upto_region 1 with (fail)
  refine wp_region_ordB (none) [(0, true), (1, true), (2, true), (3, true), (4, true), (5, true), (6, true), (7, false), (8, true), (9, true), (10, true), (11, true), (12, true), (13, true), (14, true), (15, true), (16, true), (17, true), (18, true), (19, true), (20, true), (21, true), (22, false), (23, true), (24, true), (25, true), (26, true)] (by kernel_rfl) (by kernel_rfl) fun hG0 => ?_
  repeat (first
    | (refine ord_skipB rfl (by rfl) ?_; simp only [Act.put, List.setIfInBounds_toArray, List.set_cons_zero, List.set_cons_succ])
    | (refine ord_qE rfl (by rfl) ?_; apply Exists.intro; refine ⟨fun w' hc' => ?_, ?_⟩; (focus (go_simp; (try go_bits); (try simp only [↓IntWalk.iteOmega]); with_reducible rfl)); simp only [Act.put, List.setIfInBounds_toArray, List.set_cons_zero, List.set_cons_succ]))
  refine ord_eB rfl fun K hK => ?_
  go_wp2_with (go_at_call 25; refine (Ho.out _).mono ?_; rintro e w1 ⟨rfl, hb1⟩)
  have hG1 := grown_trans hG0 (grown_below hb1 (Nat.le_refl _))
  refine hK.out _ _ hG1 ?_
  clear hK K
  repeat (first
    | (refine ord_skipB rfl (by rfl) ?_; simp only [Act.put, List.setIfInBounds_toArray, List.set_cons_zero, List.set_cons_succ])
    | (refine ord_qE rfl (by rfl) ?_; apply Exists.intro; refine ⟨fun w' hc' => ?_, ?_⟩; (focus (go_simp; (try go_bits); (try simp only [↓IntWalk.iteOmega]); with_reducible rfl)); simp only [Act.put, List.setIfInBounds_toArray, List.set_cons_zero, List.set_cons_succ]))
  refine ord_eB rfl fun K hK => ?_
  go_wp2_with (go_at_call 24; refine (Hn.out _).mono ?_; rintro e w2 ⟨g, rfl, hg, hc, hb2⟩)
  have hG2 := grown_trans hG1 (grown_below hb2 (Nat.le_refl _))
  refine hK.out _ _ hG2 ?_
  clear hK K
  repeat (first
    | (refine ord_skipB rfl (by rfl) ?_; simp only [Act.put, List.setIfInBounds_toArray, List.set_cons_zero, List.set_cons_succ])
    | (refine ord_qE rfl (by rfl) ?_; apply Exists.intro; refine ⟨fun w' hc' => ?_, ?_⟩; (focus (go_simp; (try go_bits); (try simp only [↓IntWalk.iteOmega]); with_reducible rfl)); simp only [Act.put, List.setIfInBounds_toArray, List.set_cons_zero, List.set_cons_succ]))
  refine ord_end ?_
  go_wp2
  go_ret2
  have hB : Below w.heap.size w w2 := (((Below.refl w.heap.size w).alloc (Nat.le_refl _) _).alloc (by simp) _).trans (below_grown hG2 (by simp; omega) (fun g h => by cases h))
  refine ⟨hB, ?_⟩; rw [Hr.out]; exact ⟨g, rfl, by have := hb1.size; simp at this; omega, hc⟩
set_option maxHeartbeats 1000000 in
theorem rule2_lastno {x y : Ins} (w : World) (h1 : x.op = 3) (h2 : y.op = 3) (h3 : x.dst = y.path) (h4 : x.path = y.dst) : Calls Try.prog 26 #[.agg x.cells, .agg y.cells] w (RuleRes (rule2 x y) w) := by
  have hr : rule2 x y = none := by unfold rule2; rw [if_neg]; rintro ⟨_, _, _, d⟩; exact d h4
  have ho := ops_yes h1 h2
  have hn := only_no ⟨3, x.path, y.dst, 0, 0⟩
  have e3 : (x.dst.toList == y.path.toList) = true := by rw [h3]; simp
  have e4 : (x.path.toList == y.dst.toList) = true := by rw [h4]; simp
  have e5 : (x.path.toList != y.dst.toList) = false := by simp only [bne, e4]; rfl
  obtain ⟨xo, xp, xt, xm, xr⟩ := x
  obtain ⟨yo, yp, yt, ym, yr⟩ := y
  simp only [Ins.cells] at *
  have Hr := Lib.hid hr; clear hr
  have Ho := Lib.hid ho; clear ho
  have Hn := Lib.hid hn; clear hn
  clear h1 h2 h3 h4
  go_enter Try.func26, Try.ntmps26
  go_upto_region 1 with (fail)
  refine wp_region_ordB (none) [(0, true), (1, true), (2, true), (3, true), (4, true), (5, true), (6, true), (7, false), (8, true), (9, true), (10, true), (11, true), (12, true), (13, true), (14, true), (15, true), (16, true), (17, true), (18, true), (19, true), (20, true), (21, true), (22, false), (23, true), (24, true), (25, true), (26, true)] (by kernel_rfl) (by kernel_rfl) fun hG0 => ?_
  repeat (first
    | (refine ord_skipB rfl (by rfl) ?_; simp only [Act.put, List.setIfInBounds_toArray, List.set_cons_zero, List.set_cons_succ])
    | (refine ord_qE rfl (by rfl) ?_; apply Exists.intro; refine ⟨fun w' hc' => ?_, ?_⟩; (focus (go_simp; (try go_bits); (try simp only [↓IntWalk.iteOmega]); with_reducible rfl)); simp only [Act.put, List.setIfInBounds_toArray, List.set_cons_zero, List.set_cons_succ]))
  refine ord_eB rfl fun K hK => ?_
  go_wp2_with (go_at_call 25; refine (Ho.out _).mono ?_; rintro e w1 ⟨rfl, hb1⟩)
  have hG1 := grown_trans hG0 (grown_below hb1 (Nat.le_refl _))
  refine hK.out _ _ hG1 ?_
  clear hK K
  repeat (first
    | (refine ord_skipB rfl (by rfl) ?_; simp only [Act.put, List.setIfInBounds_toArray, List.set_cons_zero, List.set_cons_succ])
    | (refine ord_qE rfl (by rfl) ?_; apply Exists.intro; refine ⟨fun w' hc' => ?_, ?_⟩; (focus (go_simp; (try go_bits); (try simp only [↓IntWalk.iteOmega]); with_reducible rfl)); simp only [Act.put, List.setIfInBounds_toArray, List.set_cons_zero, List.set_cons_succ]))
  refine ord_eB rfl fun K hK => ?_
  go_wp2_with (go_at_call 24; refine (Hn.out _).mono ?_; rintro e w2 ⟨rfl, hb2⟩)
  have hG2 := grown_trans hG1 (grown_below hb2 (Nat.le_refl _))
  refine hK.out _ _ hG2 ?_
  clear hK K
  repeat (first
    | (refine ord_skipB rfl (by rfl) ?_; simp only [Act.put, List.setIfInBounds_toArray, List.set_cons_zero, List.set_cons_succ])
    | (refine ord_qE rfl (by rfl) ?_; apply Exists.intro; refine ⟨fun w' hc' => ?_, ?_⟩; (focus (go_simp; (try go_bits); (try simp only [↓IntWalk.iteOmega]); with_reducible rfl)); simp only [Act.put, List.setIfInBounds_toArray, List.set_cons_zero, List.set_cons_succ]))
  refine ord_end ?_
  go_wp2
  go_ret2
  have hB : Below w.heap.size w w2 := (((Below.refl w.heap.size w).alloc (Nat.le_refl _) _).alloc (by simp) _).trans (below_grown hG2 (by simp; omega) (fun g h => by cases h))
  refine ⟨hB, ?_⟩; first | (rw [Hr.out]; rfl) | rw [Hr.out]
theorem rule2_any (x y : Ins) (w : World) : Calls Try.prog 26 #[.agg x.cells, .agg y.cells] w (RuleRes (rule2 x y) w) := by
  by_cases h0 : x.op = 3 ∧ y.op = 3
  · by_cases h3 : x.dst = y.path
    · by_cases h4 : x.path = y.dst
      · exact rule2_lastno w h0.1 h0.2 h3 h4
      · exact rule2_yes w h0.1 h0.2 h3 h4
    · exact rule2_eqno w h0.1 h0.2 h3
  · exact rule2_ops w h0

def rule3 (x y : Ins) : Option (List Ins) := if x.op = 3 ∧ y.op = 3 ∧ x.dst = y.path ∧ x.path = y.dst then some [] else none
set_option maxHeartbeats 1000000 in
theorem rule3_ops {x y : Ins} (w : World) (h0 : ¬ (x.op = 3 ∧ y.op = 3)) : Calls Try.prog 27 #[.agg x.cells, .agg y.cells] w (RuleRes (rule3 x y) w) := by
  have hr : rule3 x y = none := by unfold rule3; rw [if_neg]; rintro ⟨a, b, c, _⟩; exact h0 ⟨a, b⟩
  have ho := ops_no h0
  have hn := nothing_any false
  obtain ⟨xo, xp, xt, xm, xr⟩ := x
  obtain ⟨yo, yp, yt, ym, yr⟩ := y
  simp only [Ins.cells] at *
  have Hr := Lib.hid hr; clear hr
  have Ho := Lib.hid ho; clear ho
  have Hn := Lib.hid hn; clear hn
  clear h0
  go_enter Try.func27, Try.ntmps27
  go_upto_region 1 with (fail)
  refine wp_region_textB (none) [(0, true), (1, true), (2, false), (3, true), (4, true), (5, true), (6, true), (7, true), (8, true), (9, true), (10, true), (11, true), (12, true), (13, true), (14, true), (15, true), (16, true), (17, false), (18, true), (19, true), (20, true), (21, true)] (by kernel_rfl) fun hG0 => ?_
  repeat (first
    | (refine ord_skipB rfl (by rfl) ?_; simp only [Act.put, List.setIfInBounds_toArray, List.set_cons_zero, List.set_cons_succ])
    | (refine ord_qE rfl (by rfl) ?_; apply Exists.intro; refine ⟨fun w' hc' => ?_, ?_⟩; (focus (go_simp; (try go_bits); (try simp only [↓IntWalk.iteOmega]); with_reducible rfl)); simp only [Act.put, List.setIfInBounds_toArray, List.set_cons_zero, List.set_cons_succ]))
  refine ord_eB rfl fun K hK => ?_
  go_wp2_with (go_at_call 25; refine (Ho.out _).mono ?_; rintro e w1 ⟨rfl, hb1⟩)
  have hG1 := grown_trans hG0 (grown_below hb1 (Nat.le_refl _))
  refine hK.out _ _ hG1 ?_
  clear hK K
  repeat (first
    | (refine ord_skipB rfl (by rfl) ?_; simp only [Act.put, List.setIfInBounds_toArray, List.set_cons_zero, List.set_cons_succ])
    | (refine ord_qE rfl (by rfl) ?_; apply Exists.intro; refine ⟨fun w' hc' => ?_, ?_⟩; (focus (go_simp; (try go_bits); (try simp only [↓IntWalk.iteOmega]); with_reducible rfl)); simp only [Act.put, List.setIfInBounds_toArray, List.set_cons_zero, List.set_cons_succ]))
  refine ord_eB rfl fun K hK => ?_
  go_wp2_with (go_at_call 28; refine (Hn.out _).mono ?_; rintro e w2 ⟨rfl, hb2⟩)
  have hG2 := grown_trans hG1 (grown_below hb2 (Nat.le_refl _))
  refine hK.out _ _ hG2 ?_
  clear hK K
  repeat (first
    | (refine ord_skipB rfl (by rfl) ?_; simp only [Act.put, List.setIfInBounds_toArray, List.set_cons_zero, List.set_cons_succ])
    | (refine ord_qE rfl (by rfl) ?_; apply Exists.intro; refine ⟨fun w' hc' => ?_, ?_⟩; (focus (go_simp; (try go_bits); (try simp only [↓IntWalk.iteOmega]); with_reducible rfl)); simp only [Act.put, List.setIfInBounds_toArray, List.set_cons_zero, List.set_cons_succ]))
  refine ord_end ?_
  go_wp2
  go_ret2
  have hB : Below w.heap.size w w2 := (((Below.refl w.heap.size w).alloc (Nat.le_refl _) _).alloc (by simp) _).trans (below_grown hG2 (by simp; omega) (fun g h => by cases h))
  refine ⟨hB, ?_⟩; first | (rw [Hr.out]; rfl) | rw [Hr.out]
set_option maxHeartbeats 1000000 in
theorem rule3_eqno {x y : Ins} (w : World) (h1 : x.op = 3) (h2 : y.op = 3) (h3 : ¬ x.dst = y.path) : Calls Try.prog 27 #[.agg x.cells, .agg y.cells] w (RuleRes (rule3 x y) w) := by
  have hr : rule3 x y = none := by unfold rule3; rw [if_neg]; rintro ⟨a, b, c, _⟩; exact h3 c
  have ho := ops_yes h1 h2
  have hn := nothing_any false
  have e3 : (x.dst.toList == y.path.toList) = false := by rw [beq_eq_false_iff_ne]; exact fun h => h3 (p18_toList_inj h)
  obtain ⟨xo, xp, xt, xm, xr⟩ := x
  obtain ⟨yo, yp, yt, ym, yr⟩ := y
  simp only [Ins.cells] at *
  have Hr := Lib.hid hr; clear hr
  have Ho := Lib.hid ho; clear ho
  have Hn := Lib.hid hn; clear hn
  clear h1 h2 h3
  go_enter Try.func27, Try.ntmps27
  go_upto_region 1 with (fail)
  refine wp_region_textB (none) [(0, true), (1, true), (2, false), (3, true), (4, true), (5, true), (6, true), (7, true), (8, true), (9, true), (10, true), (11, true), (12, true), (13, true), (14, true), (15, true), (16, true), (17, false), (18, true), (19, true), (20, true), (21, true)] (by kernel_rfl) fun hG0 => ?_
  repeat (first
    | (refine ord_skipB rfl (by rfl) ?_; simp only [Act.put, List.setIfInBounds_toArray, List.set_cons_zero, List.set_cons_succ])
    | (refine ord_qE rfl (by rfl) ?_; apply Exists.intro; refine ⟨fun w' hc' => ?_, ?_⟩; (focus (go_simp; (try go_bits); (try simp only [↓IntWalk.iteOmega]); with_reducible rfl)); simp only [Act.put, List.setIfInBounds_toArray, List.set_cons_zero, List.set_cons_succ]))
  refine ord_eB rfl fun K hK => ?_
  go_wp2_with (go_at_call 25; refine (Ho.out _).mono ?_; rintro e w1 ⟨rfl, hb1⟩)
  have hG1 := grown_trans hG0 (grown_below hb1 (Nat.le_refl _))
  refine hK.out _ _ hG1 ?_
  clear hK K
  repeat (first
    | (refine ord_skipB rfl (by rfl) ?_; simp only [Act.put, List.setIfInBounds_toArray, List.set_cons_zero, List.set_cons_succ])
    | (refine ord_qE rfl (by rfl) ?_; apply Exists.intro; refine ⟨fun w' hc' => ?_, ?_⟩; (focus (go_simp; (try go_bits); (try simp only [↓IntWalk.iteOmega]); with_reducible rfl)); simp only [Act.put, List.setIfInBounds_toArray, List.set_cons_zero, List.set_cons_succ]))
  refine ord_eB rfl fun K hK => ?_
  go_wp2_with (go_at_call 28; refine (Hn.out _).mono ?_; rintro e w2 ⟨rfl, hb2⟩)
  have hG2 := grown_trans hG1 (grown_below hb2 (Nat.le_refl _))
  refine hK.out _ _ hG2 ?_
  clear hK K
  repeat (first
    | (refine ord_skipB rfl (by rfl) ?_; simp only [Act.put, List.setIfInBounds_toArray, List.set_cons_zero, List.set_cons_succ])
    | (refine ord_qE rfl (by rfl) ?_; apply Exists.intro; refine ⟨fun w' hc' => ?_, ?_⟩; (focus (go_simp; (try go_bits); (try simp only [↓IntWalk.iteOmega]); with_reducible rfl)); simp only [Act.put, List.setIfInBounds_toArray, List.set_cons_zero, List.set_cons_succ]))
  refine ord_end ?_
  go_wp2
  go_ret2
  have hB : Below w.heap.size w w2 := (((Below.refl w.heap.size w).alloc (Nat.le_refl _) _).alloc (by simp) _).trans (below_grown hG2 (by simp; omega) (fun g h => by cases h))
  refine ⟨hB, ?_⟩; first | (rw [Hr.out]; rfl) | rw [Hr.out]
set_option maxHeartbeats 1000000 in
theorem rule3_yes {x y : Ins} (w : World) (h1 : x.op = 3) (h2 : y.op = 3) (h3 : x.dst = y.path) (h4 : x.path = y.dst) : Calls Try.prog 27 #[.agg x.cells, .agg y.cells] w (RuleRes (rule3 x y) w) := by
  have hr : rule3 x y = some [] := by unfold rule3; rw [if_pos ⟨h1, h2, h3, h4⟩]
  have ho := ops_yes h1 h2
  have hn := nothing_any true
  have e3 : (x.dst.toList == y.path.toList) = true := by rw [h3]; simp
  have e4 : (x.path.toList == y.dst.toList) = true := by rw [h4]; simp
  obtain ⟨xo, xp, xt, xm, xr⟩ := x
  obtain ⟨yo, yp, yt, ym, yr⟩ := y
  simp only [Ins.cells] at *
  have Hr := Lib.hid hr; clear hr
  have Ho := Lib.hid ho; clear ho
  have Hn := Lib.hid hn; clear hn
  clear h1 h2 h3 h4
  go_enter Try.func27, Try.ntmps27
  go_upto_region 1 with (fail)
  refine wp_region_textB (none) [(0, true), (1, true), (2, false), (3, true), (4, true), (5, true), (6, true), (7, true), (8, true), (9, true), (10, true), (11, true), (12, true), (13, true), (14, true), (15, true), (16, true), (17, false), (18, true), (19, true), (20, true), (21, true)] (by kernel_rfl) fun hG0 => ?_
  repeat (first
    | (refine ord_skipB rfl (by rfl) ?_; simp only [Act.put, List.setIfInBounds_toArray, List.set_cons_zero, List.set_cons_succ])
    | (refine ord_qE rfl (by rfl) ?_; apply Exists.intro; refine ⟨fun w' hc' => ?_, ?_⟩; (focus (go_simp; (try go_bits); (try simp only [↓IntWalk.iteOmega]); with_reducible rfl)); simp only [Act.put, List.setIfInBounds_toArray, List.set_cons_zero, List.set_cons_succ]))
  refine ord_eB rfl fun K hK => ?_
  go_wp2_with (go_at_call 25; refine (Ho.out _).mono ?_; rintro e w1 ⟨rfl, hb1⟩)
  have hG1 := grown_trans hG0 (grown_below hb1 (Nat.le_refl _))
  refine hK.out _ _ hG1 ?_
  clear hK K
  repeat (first
    | (refine ord_skipB rfl (by rfl) ?_; simp only [Act.put, List.setIfInBounds_toArray, List.set_cons_zero, List.set_cons_succ])
    | (refine ord_qE rfl (by rfl) ?_; apply Exists.intro; refine ⟨fun w' hc' => ?_, ?_⟩; (focus (go_simp; (try go_bits); (try simp only [↓IntWalk.iteOmega]); with_reducible rfl)); simp only [Act.put, List.setIfInBounds_toArray, List.set_cons_zero, List.set_cons_succ]))
  refine ord_eB rfl fun K hK => ?_
  go_wp2_with (go_at_call 28; refine (Hn.out _).mono ?_; rintro e w2 ⟨rfl, hb2⟩)
  have hG2 := grown_trans hG1 (grown_below hb2 (Nat.le_refl _))
  refine hK.out _ _ hG2 ?_
  clear hK K
  repeat (first
    | (refine ord_skipB rfl (by rfl) ?_; simp only [Act.put, List.setIfInBounds_toArray, List.set_cons_zero, List.set_cons_succ])
    | (refine ord_qE rfl (by rfl) ?_; apply Exists.intro; refine ⟨fun w' hc' => ?_, ?_⟩; (focus (go_simp; (try go_bits); (try simp only [↓IntWalk.iteOmega]); with_reducible rfl)); simp only [Act.put, List.setIfInBounds_toArray, List.set_cons_zero, List.set_cons_succ]))
  refine ord_end ?_
  go_wp2
  go_ret2
  have hB : Below w.heap.size w w2 := (((Below.refl w.heap.size w).alloc (Nat.le_refl _) _).alloc (by simp) _).trans (below_grown hG2 (by simp; omega) (fun g h => by cases h))
  refine ⟨hB, ?_⟩; first | (rw [Hr.out]; rfl) | rw [Hr.out]
set_option maxHeartbeats 1000000 in
theorem rule3_lastno {x y : Ins} (w : World) (h1 : x.op = 3) (h2 : y.op = 3) (h3 : x.dst = y.path) (h4 : ¬ x.path = y.dst) : Calls Try.prog 27 #[.agg x.cells, .agg y.cells] w (RuleRes (rule3 x y) w) := by
  have hr : rule3 x y = none := by unfold rule3; rw [if_neg]; rintro ⟨_, _, _, d⟩; exact h4 d
  have ho := ops_yes h1 h2
  have hn := nothing_any false
  have e3 : (x.dst.toList == y.path.toList) = true := by rw [h3]; simp
  have e4 : (x.path.toList == y.dst.toList) = false := by rw [beq_eq_false_iff_ne]; exact fun h => h4 (p18_toList_inj h)
  obtain ⟨xo, xp, xt, xm, xr⟩ := x
  obtain ⟨yo, yp, yt, ym, yr⟩ := y
  simp only [Ins.cells] at *
  have Hr := Lib.hid hr; clear hr
  have Ho := Lib.hid ho; clear ho
  have Hn := Lib.hid hn; clear hn
  clear h1 h2 h3 h4
  go_enter Try.func27, Try.ntmps27
  go_upto_region 1 with (fail)
  refine wp_region_textB (none) [(0, true), (1, true), (2, false), (3, true), (4, true), (5, true), (6, true), (7, true), (8, true), (9, true), (10, true), (11, true), (12, true), (13, true), (14, true), (15, true), (16, true), (17, false), (18, true), (19, true), (20, true), (21, true)] (by kernel_rfl) fun hG0 => ?_
  repeat (first
    | (refine ord_skipB rfl (by rfl) ?_; simp only [Act.put, List.setIfInBounds_toArray, List.set_cons_zero, List.set_cons_succ])
    | (refine ord_qE rfl (by rfl) ?_; apply Exists.intro; refine ⟨fun w' hc' => ?_, ?_⟩; (focus (go_simp; (try go_bits); (try simp only [↓IntWalk.iteOmega]); with_reducible rfl)); simp only [Act.put, List.setIfInBounds_toArray, List.set_cons_zero, List.set_cons_succ]))
  refine ord_eB rfl fun K hK => ?_
  go_wp2_with (go_at_call 25; refine (Ho.out _).mono ?_; rintro e w1 ⟨rfl, hb1⟩)
  have hG1 := grown_trans hG0 (grown_below hb1 (Nat.le_refl _))
  refine hK.out _ _ hG1 ?_
  clear hK K
  repeat (first
    | (refine ord_skipB rfl (by rfl) ?_; simp only [Act.put, List.setIfInBounds_toArray, List.set_cons_zero, List.set_cons_succ])
    | (refine ord_qE rfl (by rfl) ?_; apply Exists.intro; refine ⟨fun w' hc' => ?_, ?_⟩; (focus (go_simp; (try go_bits); (try simp only [↓IntWalk.iteOmega]); with_reducible rfl)); simp only [Act.put, List.setIfInBounds_toArray, List.set_cons_zero, List.set_cons_succ]))
  refine ord_eB rfl fun K hK => ?_
  go_wp2_with (go_at_call 28; refine (Hn.out _).mono ?_; rintro e w2 ⟨rfl, hb2⟩)
  have hG2 := grown_trans hG1 (grown_below hb2 (Nat.le_refl _))
  refine hK.out _ _ hG2 ?_
  clear hK K
  repeat (first
    | (refine ord_skipB rfl (by rfl) ?_; simp only [Act.put, List.setIfInBounds_toArray, List.set_cons_zero, List.set_cons_succ])
    | (refine ord_qE rfl (by rfl) ?_; apply Exists.intro; refine ⟨fun w' hc' => ?_, ?_⟩; (focus (go_simp; (try go_bits); (try simp only [↓IntWalk.iteOmega]); with_reducible rfl)); simp only [Act.put, List.setIfInBounds_toArray, List.set_cons_zero, List.set_cons_succ]))
  refine ord_end ?_
  go_wp2
  go_ret2
  have hB : Below w.heap.size w w2 := (((Below.refl w.heap.size w).alloc (Nat.le_refl _) _).alloc (by simp) _).trans (below_grown hG2 (by simp; omega) (fun g h => by cases h))
  refine ⟨hB, ?_⟩; first | (rw [Hr.out]; rfl) | rw [Hr.out]
theorem rule3_any (x y : Ins) (w : World) : Calls Try.prog 27 #[.agg x.cells, .agg y.cells] w (RuleRes (rule3 x y) w) := by
  by_cases h0 : x.op = 3 ∧ y.op = 3
  · by_cases h3 : x.dst = y.path
    · by_cases h4 : x.path = y.dst
      · exact rule3_yes w h0.1 h0.2 h3 h4
      · exact rule3_lastno w h0.1 h0.2 h3 h4
    · exact rule3_eqno w h0.1 h0.2 h3
  · exact rule3_ops w h0

def rule4 (x y : Ins) : Option (List Ins) := if x.op = 1 ∧ y.op = 8 ∧ x.path = y.path then some [⟨1, x.path, ByteArray.empty, y.mode, 0⟩] else none
set_option maxHeartbeats 1000000 in
theorem rule4_ops {x y : Ins} (w : World) (h0 : ¬ (x.op = 1 ∧ y.op = 8)) : Calls Try.prog 29 #[.agg x.cells, .agg y.cells] w (RuleRes (rule4 x y) w) := by
  have hr : rule4 x y = none := by unfold rule4; rw [if_neg]; rintro ⟨a, b, c⟩; exact h0 ⟨a, b⟩
  have ho := ops_no h0
  have hn := only_no ⟨1, x.path, ByteArray.empty, y.mode, 0⟩
  obtain ⟨xo, xp, xt, xm, xr⟩ := x
  obtain ⟨yo, yp, yt, ym, yr⟩ := y
  simp only [Ins.cells] at *
  have Hr := Lib.hid hr; clear hr
  have Ho := Lib.hid ho; clear ho
  have Hn := Lib.hid hn; clear hn
  clear h0
  go_enter Try.func29, Try.ntmps29
  go_upto_region 1 with (fail)
  refine wp_region_ordB (none) [(0, true), (1, true), (2, true), (3, true), (4, true), (5, true), (6, true), (7, false), (8, true), (9, true), (10, true), (11, true), (12, true), (13, true), (14, true), (15, false), (16, true), (17, true), (18, true), (19, true)] (by kernel_rfl) (by kernel_rfl) fun hG0 => ?_
  repeat (first
    | (refine ord_skipB rfl (by rfl) ?_; simp only [Act.put, List.setIfInBounds_toArray, List.set_cons_zero, List.set_cons_succ])
    | (refine ord_qE rfl (by rfl) ?_; apply Exists.intro; refine ⟨fun w' hc' => ?_, ?_⟩; (focus (go_simp; (try go_bits); (try simp only [↓IntWalk.iteOmega]); with_reducible rfl)); simp only [Act.put, List.setIfInBounds_toArray, List.set_cons_zero, List.set_cons_succ]))
  refine ord_eB rfl fun K hK => ?_
  go_wp2_with (go_at_call 25; refine (Ho.out _).mono ?_; rintro e w1 ⟨rfl, hb1⟩)
  have hG1 := grown_trans hG0 (grown_below hb1 (Nat.le_refl _))
  refine hK.out _ _ hG1 ?_
  clear hK K
  repeat (first
    | (refine ord_skipB rfl (by rfl) ?_; simp only [Act.put, List.setIfInBounds_toArray, List.set_cons_zero, List.set_cons_succ])
    | (refine ord_qE rfl (by rfl) ?_; apply Exists.intro; refine ⟨fun w' hc' => ?_, ?_⟩; (focus (go_simp; (try go_bits); (try simp only [↓IntWalk.iteOmega]); with_reducible rfl)); simp only [Act.put, List.setIfInBounds_toArray, List.set_cons_zero, List.set_cons_succ]))
  refine ord_eB rfl fun K hK => ?_
  go_wp2_with (go_at_call 24; refine (Hn.out _).mono ?_; rintro e w2 ⟨rfl, hb2⟩)
  have hG2 := grown_trans hG1 (grown_below hb2 (Nat.le_refl _))
  refine hK.out _ _ hG2 ?_
  clear hK K
  repeat (first
    | (refine ord_skipB rfl (by rfl) ?_; simp only [Act.put, List.setIfInBounds_toArray, List.set_cons_zero, List.set_cons_succ])
    | (refine ord_qE rfl (by rfl) ?_; apply Exists.intro; refine ⟨fun w' hc' => ?_, ?_⟩; (focus (go_simp; (try go_bits); (try simp only [↓IntWalk.iteOmega]); with_reducible rfl)); simp only [Act.put, List.setIfInBounds_toArray, List.set_cons_zero, List.set_cons_succ]))
  refine ord_end ?_
  go_wp2
  go_ret2
  have hB : Below w.heap.size w w2 := (((Below.refl w.heap.size w).alloc (Nat.le_refl _) _).alloc (by simp) _).trans (below_grown hG2 (by simp; omega) (fun g h => by cases h))
  refine ⟨hB, ?_⟩; first | (rw [Hr.out]; rfl) | rw [Hr.out]
set_option maxHeartbeats 1000000 in
theorem rule4_eqno {x y : Ins} (w : World) (h1 : x.op = 1) (h2 : y.op = 8) (h3 : ¬ x.path = y.path) : Calls Try.prog 29 #[.agg x.cells, .agg y.cells] w (RuleRes (rule4 x y) w) := by
  have hr : rule4 x y = none := by unfold rule4; rw [if_neg]; rintro ⟨a, b, c⟩; exact h3 c
  have ho := ops_yes h1 h2
  have hn := only_no ⟨1, x.path, ByteArray.empty, y.mode, 0⟩
  have e3 : (x.path.toList == y.path.toList) = false := by rw [beq_eq_false_iff_ne]; exact fun h => h3 (p18_toList_inj h)
  obtain ⟨xo, xp, xt, xm, xr⟩ := x
  obtain ⟨yo, yp, yt, ym, yr⟩ := y
  simp only [Ins.cells] at *
  have Hr := Lib.hid hr; clear hr
  have Ho := Lib.hid ho; clear ho
  have Hn := Lib.hid hn; clear hn
  clear h1 h2 h3
  go_enter Try.func29, Try.ntmps29
  go_upto_region 1 with (fail)
  refine wp_region_ordB (none) [(0, true), (1, true), (2, true), (3, true), (4, true), (5, true), (6, true), (7, false), (8, true), (9, true), (10, true), (11, true), (12, true), (13, true), (14, true), (15, false), (16, true), (17, true), (18, true), (19, true)] (by kernel_rfl) (by kernel_rfl) fun hG0 => ?_
  repeat (first
    | (refine ord_skipB rfl (by rfl) ?_; simp only [Act.put, List.setIfInBounds_toArray, List.set_cons_zero, List.set_cons_succ])
    | (refine ord_qE rfl (by rfl) ?_; apply Exists.intro; refine ⟨fun w' hc' => ?_, ?_⟩; (focus (go_simp; (try go_bits); (try simp only [↓IntWalk.iteOmega]); with_reducible rfl)); simp only [Act.put, List.setIfInBounds_toArray, List.set_cons_zero, List.set_cons_succ]))
  refine ord_eB rfl fun K hK => ?_
  go_wp2_with (go_at_call 25; refine (Ho.out _).mono ?_; rintro e w1 ⟨rfl, hb1⟩)
  have hG1 := grown_trans hG0 (grown_below hb1 (Nat.le_refl _))
  refine hK.out _ _ hG1 ?_
  clear hK K
  repeat (first
    | (refine ord_skipB rfl (by rfl) ?_; simp only [Act.put, List.setIfInBounds_toArray, List.set_cons_zero, List.set_cons_succ])
    | (refine ord_qE rfl (by rfl) ?_; apply Exists.intro; refine ⟨fun w' hc' => ?_, ?_⟩; (focus (go_simp; (try go_bits); (try simp only [↓IntWalk.iteOmega]); with_reducible rfl)); simp only [Act.put, List.setIfInBounds_toArray, List.set_cons_zero, List.set_cons_succ]))
  refine ord_eB rfl fun K hK => ?_
  go_wp2_with (go_at_call 24; refine (Hn.out _).mono ?_; rintro e w2 ⟨rfl, hb2⟩)
  have hG2 := grown_trans hG1 (grown_below hb2 (Nat.le_refl _))
  refine hK.out _ _ hG2 ?_
  clear hK K
  repeat (first
    | (refine ord_skipB rfl (by rfl) ?_; simp only [Act.put, List.setIfInBounds_toArray, List.set_cons_zero, List.set_cons_succ])
    | (refine ord_qE rfl (by rfl) ?_; apply Exists.intro; refine ⟨fun w' hc' => ?_, ?_⟩; (focus (go_simp; (try go_bits); (try simp only [↓IntWalk.iteOmega]); with_reducible rfl)); simp only [Act.put, List.setIfInBounds_toArray, List.set_cons_zero, List.set_cons_succ]))
  refine ord_end ?_
  go_wp2
  go_ret2
  have hB : Below w.heap.size w w2 := (((Below.refl w.heap.size w).alloc (Nat.le_refl _) _).alloc (by simp) _).trans (below_grown hG2 (by simp; omega) (fun g h => by cases h))
  refine ⟨hB, ?_⟩; first | (rw [Hr.out]; rfl) | rw [Hr.out]
set_option maxHeartbeats 1000000 in
theorem rule4_yes {x y : Ins} (w : World) (h1 : x.op = 1) (h2 : y.op = 8) (h3 : x.path = y.path) : Calls Try.prog 29 #[.agg x.cells, .agg y.cells] w (RuleRes (rule4 x y) w) := by
  have hr : rule4 x y = some [⟨1, x.path, ByteArray.empty, y.mode, 0⟩] := by unfold rule4; rw [if_pos ⟨h1, h2, h3⟩]
  have ho := ops_yes h1 h2
  have hn := only_yes ⟨1, x.path, ByteArray.empty, y.mode, 0⟩
  have e3 : (x.path.toList == y.path.toList) = true := by rw [h3]; simp
  obtain ⟨xo, xp, xt, xm, xr⟩ := x
  obtain ⟨yo, yp, yt, ym, yr⟩ := y
  simp only [Ins.cells] at *
  have Hr := Lib.hid hr; clear hr
  have Ho := Lib.hid ho; clear ho
  have Hn := Lib.hid hn; clear hn
  clear h1 h2 h3
  go_enter Try.func29, Try.ntmps29
  go_upto_region 1 with (fail)
  refine wp_region_ordB (none) [(0, true), (1, true), (2, true), (3, true), (4, true), (5, true), (6, true), (7, false), (8, true), (9, true), (10, true), (11, true), (12, true), (13, true), (14, true), (15, false), (16, true), (17, true), (18, true), (19, true)] (by kernel_rfl) (by kernel_rfl) fun hG0 => ?_
  repeat (first
    | (refine ord_skipB rfl (by rfl) ?_; simp only [Act.put, List.setIfInBounds_toArray, List.set_cons_zero, List.set_cons_succ])
    | (refine ord_qE rfl (by rfl) ?_; apply Exists.intro; refine ⟨fun w' hc' => ?_, ?_⟩; (focus (go_simp; (try go_bits); (try simp only [↓IntWalk.iteOmega]); with_reducible rfl)); simp only [Act.put, List.setIfInBounds_toArray, List.set_cons_zero, List.set_cons_succ]))
  refine ord_eB rfl fun K hK => ?_
  go_wp2_with (go_at_call 25; refine (Ho.out _).mono ?_; rintro e w1 ⟨rfl, hb1⟩)
  have hG1 := grown_trans hG0 (grown_below hb1 (Nat.le_refl _))
  refine hK.out _ _ hG1 ?_
  clear hK K
  repeat (first
    | (refine ord_skipB rfl (by rfl) ?_; simp only [Act.put, List.setIfInBounds_toArray, List.set_cons_zero, List.set_cons_succ])
    | (refine ord_qE rfl (by rfl) ?_; apply Exists.intro; refine ⟨fun w' hc' => ?_, ?_⟩; (focus (go_simp; (try go_bits); (try simp only [↓IntWalk.iteOmega]); with_reducible rfl)); simp only [Act.put, List.setIfInBounds_toArray, List.set_cons_zero, List.set_cons_succ]))
  refine ord_eB rfl fun K hK => ?_
  go_wp2_with (go_at_call 24; refine (Hn.out _).mono ?_; rintro e w2 ⟨g, rfl, hg, hc, hb2⟩)
  have hG2 := grown_trans hG1 (grown_below hb2 (Nat.le_refl _))
  refine hK.out _ _ hG2 ?_
  clear hK K
  repeat (first
    | (refine ord_skipB rfl (by rfl) ?_; simp only [Act.put, List.setIfInBounds_toArray, List.set_cons_zero, List.set_cons_succ])
    | (refine ord_qE rfl (by rfl) ?_; apply Exists.intro; refine ⟨fun w' hc' => ?_, ?_⟩; (focus (go_simp; (try go_bits); (try simp only [↓IntWalk.iteOmega]); with_reducible rfl)); simp only [Act.put, List.setIfInBounds_toArray, List.set_cons_zero, List.set_cons_succ]))
  refine ord_end ?_
  go_wp2
  go_ret2
  have hB : Below w.heap.size w w2 := (((Below.refl w.heap.size w).alloc (Nat.le_refl _) _).alloc (by simp) _).trans (below_grown hG2 (by simp; omega) (fun g h => by cases h))
  refine ⟨hB, ?_⟩; rw [Hr.out]; exact ⟨g, rfl, by have := hb1.size; simp at this; omega, hc⟩
theorem rule4_any (x y : Ins) (w : World) : Calls Try.prog 29 #[.agg x.cells, .agg y.cells] w (RuleRes (rule4 x y) w) := by
  by_cases h0 : x.op = 1 ∧ y.op = 8
  · by_cases h3 : x.path = y.path
    · exact rule4_yes w h0.1 h0.2 h3
    · exact rule4_eqno w h0.1 h0.2 h3
  · exact rule4_ops w h0

def rule5 (x y : Ins) : Option (List Ins) := if x.op = 6 ∧ y.op = 8 ∧ x.path = y.path then some [⟨6, x.path, ByteArray.empty, y.mode, x.ref⟩] else none
set_option maxHeartbeats 1000000 in
theorem rule5_ops {x y : Ins} (w : World) (h0 : ¬ (x.op = 6 ∧ y.op = 8)) : Calls Try.prog 30 #[.agg x.cells, .agg y.cells] w (RuleRes (rule5 x y) w) := by
  have hr : rule5 x y = none := by unfold rule5; rw [if_neg]; rintro ⟨a, b, c⟩; exact h0 ⟨a, b⟩
  have ho := ops_no h0
  have hn := only_no ⟨6, x.path, ByteArray.empty, y.mode, x.ref⟩
  obtain ⟨xo, xp, xt, xm, xr⟩ := x
  obtain ⟨yo, yp, yt, ym, yr⟩ := y
  simp only [Ins.cells] at *
  have Hr := Lib.hid hr; clear hr
  have Ho := Lib.hid ho; clear ho
  have Hn := Lib.hid hn; clear hn
  clear h0
  go_enter Try.func30, Try.ntmps30
  go_upto_region 1 with (fail)
  refine wp_region_ordB (none) [(0, true), (1, true), (2, true), (3, true), (4, true), (5, true), (6, true), (7, true), (8, true), (9, false), (10, true), (11, true), (12, true), (13, true), (14, true), (15, true), (16, true), (17, false), (18, true), (19, true), (20, true), (21, true)] (by kernel_rfl) (by kernel_rfl) fun hG0 => ?_
  repeat (first
    | (refine ord_skipB rfl (by rfl) ?_; simp only [Act.put, List.setIfInBounds_toArray, List.set_cons_zero, List.set_cons_succ])
    | (refine ord_qE rfl (by rfl) ?_; apply Exists.intro; refine ⟨fun w' hc' => ?_, ?_⟩; (focus (go_simp; (try go_bits); (try simp only [↓IntWalk.iteOmega]); with_reducible rfl)); simp only [Act.put, List.setIfInBounds_toArray, List.set_cons_zero, List.set_cons_succ]))
  refine ord_eB rfl fun K hK => ?_
  go_wp2_with (go_at_call 25; refine (Ho.out _).mono ?_; rintro e w1 ⟨rfl, hb1⟩)
  have hG1 := grown_trans hG0 (grown_below hb1 (Nat.le_refl _))
  refine hK.out _ _ hG1 ?_
  clear hK K
  repeat (first
    | (refine ord_skipB rfl (by rfl) ?_; simp only [Act.put, List.setIfInBounds_toArray, List.set_cons_zero, List.set_cons_succ])
    | (refine ord_qE rfl (by rfl) ?_; apply Exists.intro; refine ⟨fun w' hc' => ?_, ?_⟩; (focus (go_simp; (try go_bits); (try simp only [↓IntWalk.iteOmega]); with_reducible rfl)); simp only [Act.put, List.setIfInBounds_toArray, List.set_cons_zero, List.set_cons_succ]))
  refine ord_eB rfl fun K hK => ?_
  go_wp2_with (go_at_call 24; refine (Hn.out _).mono ?_; rintro e w2 ⟨rfl, hb2⟩)
  have hG2 := grown_trans hG1 (grown_below hb2 (Nat.le_refl _))
  refine hK.out _ _ hG2 ?_
  clear hK K
  repeat (first
    | (refine ord_skipB rfl (by rfl) ?_; simp only [Act.put, List.setIfInBounds_toArray, List.set_cons_zero, List.set_cons_succ])
    | (refine ord_qE rfl (by rfl) ?_; apply Exists.intro; refine ⟨fun w' hc' => ?_, ?_⟩; (focus (go_simp; (try go_bits); (try simp only [↓IntWalk.iteOmega]); with_reducible rfl)); simp only [Act.put, List.setIfInBounds_toArray, List.set_cons_zero, List.set_cons_succ]))
  refine ord_end ?_
  go_wp2
  go_ret2
  have hB : Below w.heap.size w w2 := (((Below.refl w.heap.size w).alloc (Nat.le_refl _) _).alloc (by simp) _).trans (below_grown hG2 (by simp; omega) (fun g h => by cases h))
  refine ⟨hB, ?_⟩; first | (rw [Hr.out]; rfl) | rw [Hr.out]
set_option maxHeartbeats 1000000 in
theorem rule5_eqno {x y : Ins} (w : World) (h1 : x.op = 6) (h2 : y.op = 8) (h3 : ¬ x.path = y.path) : Calls Try.prog 30 #[.agg x.cells, .agg y.cells] w (RuleRes (rule5 x y) w) := by
  have hr : rule5 x y = none := by unfold rule5; rw [if_neg]; rintro ⟨a, b, c⟩; exact h3 c
  have ho := ops_yes h1 h2
  have hn := only_no ⟨6, x.path, ByteArray.empty, y.mode, x.ref⟩
  have e3 : (x.path.toList == y.path.toList) = false := by rw [beq_eq_false_iff_ne]; exact fun h => h3 (p18_toList_inj h)
  obtain ⟨xo, xp, xt, xm, xr⟩ := x
  obtain ⟨yo, yp, yt, ym, yr⟩ := y
  simp only [Ins.cells] at *
  have Hr := Lib.hid hr; clear hr
  have Ho := Lib.hid ho; clear ho
  have Hn := Lib.hid hn; clear hn
  clear h1 h2 h3
  go_enter Try.func30, Try.ntmps30
  go_upto_region 1 with (fail)
  refine wp_region_ordB (none) [(0, true), (1, true), (2, true), (3, true), (4, true), (5, true), (6, true), (7, true), (8, true), (9, false), (10, true), (11, true), (12, true), (13, true), (14, true), (15, true), (16, true), (17, false), (18, true), (19, true), (20, true), (21, true)] (by kernel_rfl) (by kernel_rfl) fun hG0 => ?_
  repeat (first
    | (refine ord_skipB rfl (by rfl) ?_; simp only [Act.put, List.setIfInBounds_toArray, List.set_cons_zero, List.set_cons_succ])
    | (refine ord_qE rfl (by rfl) ?_; apply Exists.intro; refine ⟨fun w' hc' => ?_, ?_⟩; (focus (go_simp; (try go_bits); (try simp only [↓IntWalk.iteOmega]); with_reducible rfl)); simp only [Act.put, List.setIfInBounds_toArray, List.set_cons_zero, List.set_cons_succ]))
  refine ord_eB rfl fun K hK => ?_
  go_wp2_with (go_at_call 25; refine (Ho.out _).mono ?_; rintro e w1 ⟨rfl, hb1⟩)
  have hG1 := grown_trans hG0 (grown_below hb1 (Nat.le_refl _))
  refine hK.out _ _ hG1 ?_
  clear hK K
  repeat (first
    | (refine ord_skipB rfl (by rfl) ?_; simp only [Act.put, List.setIfInBounds_toArray, List.set_cons_zero, List.set_cons_succ])
    | (refine ord_qE rfl (by rfl) ?_; apply Exists.intro; refine ⟨fun w' hc' => ?_, ?_⟩; (focus (go_simp; (try go_bits); (try simp only [↓IntWalk.iteOmega]); with_reducible rfl)); simp only [Act.put, List.setIfInBounds_toArray, List.set_cons_zero, List.set_cons_succ]))
  refine ord_eB rfl fun K hK => ?_
  go_wp2_with (go_at_call 24; refine (Hn.out _).mono ?_; rintro e w2 ⟨rfl, hb2⟩)
  have hG2 := grown_trans hG1 (grown_below hb2 (Nat.le_refl _))
  refine hK.out _ _ hG2 ?_
  clear hK K
  repeat (first
    | (refine ord_skipB rfl (by rfl) ?_; simp only [Act.put, List.setIfInBounds_toArray, List.set_cons_zero, List.set_cons_succ])
    | (refine ord_qE rfl (by rfl) ?_; apply Exists.intro; refine ⟨fun w' hc' => ?_, ?_⟩; (focus (go_simp; (try go_bits); (try simp only [↓IntWalk.iteOmega]); with_reducible rfl)); simp only [Act.put, List.setIfInBounds_toArray, List.set_cons_zero, List.set_cons_succ]))
  refine ord_end ?_
  go_wp2
  go_ret2
  have hB : Below w.heap.size w w2 := (((Below.refl w.heap.size w).alloc (Nat.le_refl _) _).alloc (by simp) _).trans (below_grown hG2 (by simp; omega) (fun g h => by cases h))
  refine ⟨hB, ?_⟩; first | (rw [Hr.out]; rfl) | rw [Hr.out]
set_option maxHeartbeats 1000000 in
theorem rule5_yes {x y : Ins} (w : World) (h1 : x.op = 6) (h2 : y.op = 8) (h3 : x.path = y.path) : Calls Try.prog 30 #[.agg x.cells, .agg y.cells] w (RuleRes (rule5 x y) w) := by
  have hr : rule5 x y = some [⟨6, x.path, ByteArray.empty, y.mode, x.ref⟩] := by unfold rule5; rw [if_pos ⟨h1, h2, h3⟩]
  have ho := ops_yes h1 h2
  have hn := only_yes ⟨6, x.path, ByteArray.empty, y.mode, x.ref⟩
  have e3 : (x.path.toList == y.path.toList) = true := by rw [h3]; simp
  obtain ⟨xo, xp, xt, xm, xr⟩ := x
  obtain ⟨yo, yp, yt, ym, yr⟩ := y
  simp only [Ins.cells] at *
  have Hr := Lib.hid hr; clear hr
  have Ho := Lib.hid ho; clear ho
  have Hn := Lib.hid hn; clear hn
  clear h1 h2 h3
  go_enter Try.func30, Try.ntmps30
  go_upto_region 1 with (fail)
  refine wp_region_ordB (none) [(0, true), (1, true), (2, true), (3, true), (4, true), (5, true), (6, true), (7, true), (8, true), (9, false), (10, true), (11, true), (12, true), (13, true), (14, true), (15, true), (16, true), (17, false), (18, true), (19, true), (20, true), (21, true)] (by kernel_rfl) (by kernel_rfl) fun hG0 => ?_
  repeat (first
    | (refine ord_skipB rfl (by rfl) ?_; simp only [Act.put, List.setIfInBounds_toArray, List.set_cons_zero, List.set_cons_succ])
    | (refine ord_qE rfl (by rfl) ?_; apply Exists.intro; refine ⟨fun w' hc' => ?_, ?_⟩; (focus (go_simp; (try go_bits); (try simp only [↓IntWalk.iteOmega]); with_reducible rfl)); simp only [Act.put, List.setIfInBounds_toArray, List.set_cons_zero, List.set_cons_succ]))
  refine ord_eB rfl fun K hK => ?_
  go_wp2_with (go_at_call 25; refine (Ho.out _).mono ?_; rintro e w1 ⟨rfl, hb1⟩)
  have hG1 := grown_trans hG0 (grown_below hb1 (Nat.le_refl _))
  refine hK.out _ _ hG1 ?_
  clear hK K
  repeat (first
    | (refine ord_skipB rfl (by rfl) ?_; simp only [Act.put, List.setIfInBounds_toArray, List.set_cons_zero, List.set_cons_succ])
    | (refine ord_qE rfl (by rfl) ?_; apply Exists.intro; refine ⟨fun w' hc' => ?_, ?_⟩; (focus (go_simp; (try go_bits); (try simp only [↓IntWalk.iteOmega]); with_reducible rfl)); simp only [Act.put, List.setIfInBounds_toArray, List.set_cons_zero, List.set_cons_succ]))
  refine ord_eB rfl fun K hK => ?_
  go_wp2_with (go_at_call 24; refine (Hn.out _).mono ?_; rintro e w2 ⟨g, rfl, hg, hc, hb2⟩)
  have hG2 := grown_trans hG1 (grown_below hb2 (Nat.le_refl _))
  refine hK.out _ _ hG2 ?_
  clear hK K
  repeat (first
    | (refine ord_skipB rfl (by rfl) ?_; simp only [Act.put, List.setIfInBounds_toArray, List.set_cons_zero, List.set_cons_succ])
    | (refine ord_qE rfl (by rfl) ?_; apply Exists.intro; refine ⟨fun w' hc' => ?_, ?_⟩; (focus (go_simp; (try go_bits); (try simp only [↓IntWalk.iteOmega]); with_reducible rfl)); simp only [Act.put, List.setIfInBounds_toArray, List.set_cons_zero, List.set_cons_succ]))
  refine ord_end ?_
  go_wp2
  go_ret2
  have hB : Below w.heap.size w w2 := (((Below.refl w.heap.size w).alloc (Nat.le_refl _) _).alloc (by simp) _).trans (below_grown hG2 (by simp; omega) (fun g h => by cases h))
  refine ⟨hB, ?_⟩; rw [Hr.out]; exact ⟨g, rfl, by have := hb1.size; simp at this; omega, hc⟩
theorem rule5_any (x y : Ins) (w : World) : Calls Try.prog 30 #[.agg x.cells, .agg y.cells] w (RuleRes (rule5 x y) w) := by
  by_cases h0 : x.op = 6 ∧ y.op = 8
  · by_cases h3 : x.path = y.path
    · exact rule5_yes w h0.1 h0.2 h3
    · exact rule5_eqno w h0.1 h0.2 h3
  · exact rule5_ops w h0

def rule6 (x y : Ins) : Option (List Ins) := if x.op = 7 ∧ y.op = 8 ∧ x.dst = y.path then some [⟨7, x.path, x.dst, y.mode, 0⟩] else none
set_option maxHeartbeats 1000000 in
theorem rule6_ops {x y : Ins} (w : World) (h0 : ¬ (x.op = 7 ∧ y.op = 8)) : Calls Try.prog 31 #[.agg x.cells, .agg y.cells] w (RuleRes (rule6 x y) w) := by
  have hr : rule6 x y = none := by unfold rule6; rw [if_neg]; rintro ⟨a, b, c⟩; exact h0 ⟨a, b⟩
  have ho := ops_no h0
  have hn := only_no ⟨7, x.path, x.dst, y.mode, 0⟩
  obtain ⟨xo, xp, xt, xm, xr⟩ := x
  obtain ⟨yo, yp, yt, ym, yr⟩ := y
  simp only [Ins.cells] at *
  have Hr := Lib.hid hr; clear hr
  have Ho := Lib.hid ho; clear ho
  have Hn := Lib.hid hn; clear hn
  clear h0
  go_enter Try.func31, Try.ntmps31
  go_upto_region 1 with (fail)
  refine wp_region_ordB (none) [(0, true), (1, true), (2, true), (3, true), (4, true), (5, true), (6, true), (7, true), (8, true), (9, false), (10, true), (11, true), (12, true), (13, true), (14, true), (15, true), (16, true), (17, false), (18, true), (19, true), (20, true), (21, true)] (by kernel_rfl) (by kernel_rfl) fun hG0 => ?_
  repeat (first
    | (refine ord_skipB rfl (by rfl) ?_; simp only [Act.put, List.setIfInBounds_toArray, List.set_cons_zero, List.set_cons_succ])
    | (refine ord_qE rfl (by rfl) ?_; apply Exists.intro; refine ⟨fun w' hc' => ?_, ?_⟩; (focus (go_simp; (try go_bits); (try simp only [↓IntWalk.iteOmega]); with_reducible rfl)); simp only [Act.put, List.setIfInBounds_toArray, List.set_cons_zero, List.set_cons_succ]))
  refine ord_eB rfl fun K hK => ?_
  go_wp2_with (go_at_call 25; refine (Ho.out _).mono ?_; rintro e w1 ⟨rfl, hb1⟩)
  have hG1 := grown_trans hG0 (grown_below hb1 (Nat.le_refl _))
  refine hK.out _ _ hG1 ?_
  clear hK K
  repeat (first
    | (refine ord_skipB rfl (by rfl) ?_; simp only [Act.put, List.setIfInBounds_toArray, List.set_cons_zero, List.set_cons_succ])
    | (refine ord_qE rfl (by rfl) ?_; apply Exists.intro; refine ⟨fun w' hc' => ?_, ?_⟩; (focus (go_simp; (try go_bits); (try simp only [↓IntWalk.iteOmega]); with_reducible rfl)); simp only [Act.put, List.setIfInBounds_toArray, List.set_cons_zero, List.set_cons_succ]))
  refine ord_eB rfl fun K hK => ?_
  go_wp2_with (go_at_call 24; refine (Hn.out _).mono ?_; rintro e w2 ⟨rfl, hb2⟩)
  have hG2 := grown_trans hG1 (grown_below hb2 (Nat.le_refl _))
  refine hK.out _ _ hG2 ?_
  clear hK K
  repeat (first
    | (refine ord_skipB rfl (by rfl) ?_; simp only [Act.put, List.setIfInBounds_toArray, List.set_cons_zero, List.set_cons_succ])
    | (refine ord_qE rfl (by rfl) ?_; apply Exists.intro; refine ⟨fun w' hc' => ?_, ?_⟩; (focus (go_simp; (try go_bits); (try simp only [↓IntWalk.iteOmega]); with_reducible rfl)); simp only [Act.put, List.setIfInBounds_toArray, List.set_cons_zero, List.set_cons_succ]))
  refine ord_end ?_
  go_wp2
  go_ret2
  have hB : Below w.heap.size w w2 := (((Below.refl w.heap.size w).alloc (Nat.le_refl _) _).alloc (by simp) _).trans (below_grown hG2 (by simp; omega) (fun g h => by cases h))
  refine ⟨hB, ?_⟩; first | (rw [Hr.out]; rfl) | rw [Hr.out]
set_option maxHeartbeats 1000000 in
theorem rule6_eqno {x y : Ins} (w : World) (h1 : x.op = 7) (h2 : y.op = 8) (h3 : ¬ x.dst = y.path) : Calls Try.prog 31 #[.agg x.cells, .agg y.cells] w (RuleRes (rule6 x y) w) := by
  have hr : rule6 x y = none := by unfold rule6; rw [if_neg]; rintro ⟨a, b, c⟩; exact h3 c
  have ho := ops_yes h1 h2
  have hn := only_no ⟨7, x.path, x.dst, y.mode, 0⟩
  have e3 : (x.dst.toList == y.path.toList) = false := by rw [beq_eq_false_iff_ne]; exact fun h => h3 (p18_toList_inj h)
  obtain ⟨xo, xp, xt, xm, xr⟩ := x
  obtain ⟨yo, yp, yt, ym, yr⟩ := y
  simp only [Ins.cells] at *
  have Hr := Lib.hid hr; clear hr
  have Ho := Lib.hid ho; clear ho
  have Hn := Lib.hid hn; clear hn
  clear h1 h2 h3
  go_enter Try.func31, Try.ntmps31
  go_upto_region 1 with (fail)
  refine wp_region_ordB (none) [(0, true), (1, true), (2, true), (3, true), (4, true), (5, true), (6, true), (7, true), (8, true), (9, false), (10, true), (11, true), (12, true), (13, true), (14, true), (15, true), (16, true), (17, false), (18, true), (19, true), (20, true), (21, true)] (by kernel_rfl) (by kernel_rfl) fun hG0 => ?_
  repeat (first
    | (refine ord_skipB rfl (by rfl) ?_; simp only [Act.put, List.setIfInBounds_toArray, List.set_cons_zero, List.set_cons_succ])
    | (refine ord_qE rfl (by rfl) ?_; apply Exists.intro; refine ⟨fun w' hc' => ?_, ?_⟩; (focus (go_simp; (try go_bits); (try simp only [↓IntWalk.iteOmega]); with_reducible rfl)); simp only [Act.put, List.setIfInBounds_toArray, List.set_cons_zero, List.set_cons_succ]))
  refine ord_eB rfl fun K hK => ?_
  go_wp2_with (go_at_call 25; refine (Ho.out _).mono ?_; rintro e w1 ⟨rfl, hb1⟩)
  have hG1 := grown_trans hG0 (grown_below hb1 (Nat.le_refl _))
  refine hK.out _ _ hG1 ?_
  clear hK K
  repeat (first
    | (refine ord_skipB rfl (by rfl) ?_; simp only [Act.put, List.setIfInBounds_toArray, List.set_cons_zero, List.set_cons_succ])
    | (refine ord_qE rfl (by rfl) ?_; apply Exists.intro; refine ⟨fun w' hc' => ?_, ?_⟩; (focus (go_simp; (try go_bits); (try simp only [↓IntWalk.iteOmega]); with_reducible rfl)); simp only [Act.put, List.setIfInBounds_toArray, List.set_cons_zero, List.set_cons_succ]))
  refine ord_eB rfl fun K hK => ?_
  go_wp2_with (go_at_call 24; refine (Hn.out _).mono ?_; rintro e w2 ⟨rfl, hb2⟩)
  have hG2 := grown_trans hG1 (grown_below hb2 (Nat.le_refl _))
  refine hK.out _ _ hG2 ?_
  clear hK K
  repeat (first
    | (refine ord_skipB rfl (by rfl) ?_; simp only [Act.put, List.setIfInBounds_toArray, List.set_cons_zero, List.set_cons_succ])
    | (refine ord_qE rfl (by rfl) ?_; apply Exists.intro; refine ⟨fun w' hc' => ?_, ?_⟩; (focus (go_simp; (try go_bits); (try simp only [↓IntWalk.iteOmega]); with_reducible rfl)); simp only [Act.put, List.setIfInBounds_toArray, List.set_cons_zero, List.set_cons_succ]))
  refine ord_end ?_
  go_wp2
  go_ret2
  have hB : Below w.heap.size w w2 := (((Below.refl w.heap.size w).alloc (Nat.le_refl _) _).alloc (by simp) _).trans (below_grown hG2 (by simp; omega) (fun g h => by cases h))
  refine ⟨hB, ?_⟩; first | (rw [Hr.out]; rfl) | rw [Hr.out]
set_option maxHeartbeats 1000000 in
theorem rule6_yes {x y : Ins} (w : World) (h1 : x.op = 7) (h2 : y.op = 8) (h3 : x.dst = y.path) : Calls Try.prog 31 #[.agg x.cells, .agg y.cells] w (RuleRes (rule6 x y) w) := by
  have hr : rule6 x y = some [⟨7, x.path, x.dst, y.mode, 0⟩] := by unfold rule6; rw [if_pos ⟨h1, h2, h3⟩]
  have ho := ops_yes h1 h2
  have hn := only_yes ⟨7, x.path, x.dst, y.mode, 0⟩
  have e3 : (x.dst.toList == y.path.toList) = true := by rw [h3]; simp
  obtain ⟨xo, xp, xt, xm, xr⟩ := x
  obtain ⟨yo, yp, yt, ym, yr⟩ := y
  simp only [Ins.cells] at *
  have Hr := Lib.hid hr; clear hr
  have Ho := Lib.hid ho; clear ho
  have Hn := Lib.hid hn; clear hn
  clear h1 h2 h3
  go_enter Try.func31, Try.ntmps31
  go_upto_region 1 with (fail)
  refine wp_region_ordB (none) [(0, true), (1, true), (2, true), (3, true), (4, true), (5, true), (6, true), (7, true), (8, true), (9, false), (10, true), (11, true), (12, true), (13, true), (14, true), (15, true), (16, true), (17, false), (18, true), (19, true), (20, true), (21, true)] (by kernel_rfl) (by kernel_rfl) fun hG0 => ?_
  repeat (first
    | (refine ord_skipB rfl (by rfl) ?_; simp only [Act.put, List.setIfInBounds_toArray, List.set_cons_zero, List.set_cons_succ])
    | (refine ord_qE rfl (by rfl) ?_; apply Exists.intro; refine ⟨fun w' hc' => ?_, ?_⟩; (focus (go_simp; (try go_bits); (try simp only [↓IntWalk.iteOmega]); with_reducible rfl)); simp only [Act.put, List.setIfInBounds_toArray, List.set_cons_zero, List.set_cons_succ]))
  refine ord_eB rfl fun K hK => ?_
  go_wp2_with (go_at_call 25; refine (Ho.out _).mono ?_; rintro e w1 ⟨rfl, hb1⟩)
  have hG1 := grown_trans hG0 (grown_below hb1 (Nat.le_refl _))
  refine hK.out _ _ hG1 ?_
  clear hK K
  repeat (first
    | (refine ord_skipB rfl (by rfl) ?_; simp only [Act.put, List.setIfInBounds_toArray, List.set_cons_zero, List.set_cons_succ])
    | (refine ord_qE rfl (by rfl) ?_; apply Exists.intro; refine ⟨fun w' hc' => ?_, ?_⟩; (focus (go_simp; (try go_bits); (try simp only [↓IntWalk.iteOmega]); with_reducible rfl)); simp only [Act.put, List.setIfInBounds_toArray, List.set_cons_zero, List.set_cons_succ]))
  refine ord_eB rfl fun K hK => ?_
  go_wp2_with (go_at_call 24; refine (Hn.out _).mono ?_; rintro e w2 ⟨g, rfl, hg, hc, hb2⟩)
  have hG2 := grown_trans hG1 (grown_below hb2 (Nat.le_refl _))
  refine hK.out _ _ hG2 ?_
  clear hK K
  repeat (first
    | (refine ord_skipB rfl (by rfl) ?_; simp only [Act.put, List.setIfInBounds_toArray, List.set_cons_zero, List.set_cons_succ])
    | (refine ord_qE rfl (by rfl) ?_; apply Exists.intro; refine ⟨fun w' hc' => ?_, ?_⟩; (focus (go_simp; (try go_bits); (try simp only [↓IntWalk.iteOmega]); with_reducible rfl)); simp only [Act.put, List.setIfInBounds_toArray, List.set_cons_zero, List.set_cons_succ]))
  refine ord_end ?_
  go_wp2
  go_ret2
  have hB : Below w.heap.size w w2 := (((Below.refl w.heap.size w).alloc (Nat.le_refl _) _).alloc (by simp) _).trans (below_grown hG2 (by simp; omega) (fun g h => by cases h))
  refine ⟨hB, ?_⟩; rw [Hr.out]; exact ⟨g, rfl, by have := hb1.size; simp at this; omega, hc⟩
theorem rule6_any (x y : Ins) (w : World) : Calls Try.prog 31 #[.agg x.cells, .agg y.cells] w (RuleRes (rule6 x y) w) := by
  by_cases h0 : x.op = 7 ∧ y.op = 8
  · by_cases h3 : x.dst = y.path
    · exact rule6_yes w h0.1 h0.2 h3
    · exact rule6_eqno w h0.1 h0.2 h3
  · exact rule6_ops w h0

def rule7 (x y : Ins) : Option (List Ins) := if x.op = 8 ∧ y.op = 8 ∧ x.path = y.path then some [⟨8, x.path, ByteArray.empty, y.mode, 0⟩] else none
set_option maxHeartbeats 1000000 in
theorem rule7_ops {x y : Ins} (w : World) (h0 : ¬ (x.op = 8 ∧ y.op = 8)) : Calls Try.prog 32 #[.agg x.cells, .agg y.cells] w (RuleRes (rule7 x y) w) := by
  have hr : rule7 x y = none := by unfold rule7; rw [if_neg]; rintro ⟨a, b, c⟩; exact h0 ⟨a, b⟩
  have ho := ops_no h0
  have hn := only_no ⟨8, x.path, ByteArray.empty, y.mode, 0⟩
  obtain ⟨xo, xp, xt, xm, xr⟩ := x
  obtain ⟨yo, yp, yt, ym, yr⟩ := y
  simp only [Ins.cells] at *
  have Hr := Lib.hid hr; clear hr
  have Ho := Lib.hid ho; clear ho
  have Hn := Lib.hid hn; clear hn
  clear h0
  go_enter Try.func32, Try.ntmps32
  go_upto_region 1 with (fail)
  refine wp_region_ordB (none) [(0, true), (1, true), (2, true), (3, true), (4, true), (5, true), (6, true), (7, false), (8, true), (9, true), (10, true), (11, true), (12, true), (13, true), (14, true), (15, false), (16, true), (17, true), (18, true), (19, true)] (by kernel_rfl) (by kernel_rfl) fun hG0 => ?_
  repeat (first
    | (refine ord_skipB rfl (by rfl) ?_; simp only [Act.put, List.setIfInBounds_toArray, List.set_cons_zero, List.set_cons_succ])
    | (refine ord_qE rfl (by rfl) ?_; apply Exists.intro; refine ⟨fun w' hc' => ?_, ?_⟩; (focus (go_simp; (try go_bits); (try simp only [↓IntWalk.iteOmega]); with_reducible rfl)); simp only [Act.put, List.setIfInBounds_toArray, List.set_cons_zero, List.set_cons_succ]))
  refine ord_eB rfl fun K hK => ?_
  go_wp2_with (go_at_call 25; refine (Ho.out _).mono ?_; rintro e w1 ⟨rfl, hb1⟩)
  have hG1 := grown_trans hG0 (grown_below hb1 (Nat.le_refl _))
  refine hK.out _ _ hG1 ?_
  clear hK K
  repeat (first
    | (refine ord_skipB rfl (by rfl) ?_; simp only [Act.put, List.setIfInBounds_toArray, List.set_cons_zero, List.set_cons_succ])
    | (refine ord_qE rfl (by rfl) ?_; apply Exists.intro; refine ⟨fun w' hc' => ?_, ?_⟩; (focus (go_simp; (try go_bits); (try simp only [↓IntWalk.iteOmega]); with_reducible rfl)); simp only [Act.put, List.setIfInBounds_toArray, List.set_cons_zero, List.set_cons_succ]))
  refine ord_eB rfl fun K hK => ?_
  go_wp2_with (go_at_call 24; refine (Hn.out _).mono ?_; rintro e w2 ⟨rfl, hb2⟩)
  have hG2 := grown_trans hG1 (grown_below hb2 (Nat.le_refl _))
  refine hK.out _ _ hG2 ?_
  clear hK K
  repeat (first
    | (refine ord_skipB rfl (by rfl) ?_; simp only [Act.put, List.setIfInBounds_toArray, List.set_cons_zero, List.set_cons_succ])
    | (refine ord_qE rfl (by rfl) ?_; apply Exists.intro; refine ⟨fun w' hc' => ?_, ?_⟩; (focus (go_simp; (try go_bits); (try simp only [↓IntWalk.iteOmega]); with_reducible rfl)); simp only [Act.put, List.setIfInBounds_toArray, List.set_cons_zero, List.set_cons_succ]))
  refine ord_end ?_
  go_wp2
  go_ret2
  have hB : Below w.heap.size w w2 := (((Below.refl w.heap.size w).alloc (Nat.le_refl _) _).alloc (by simp) _).trans (below_grown hG2 (by simp; omega) (fun g h => by cases h))
  refine ⟨hB, ?_⟩; first | (rw [Hr.out]; rfl) | rw [Hr.out]
set_option maxHeartbeats 1000000 in
theorem rule7_eqno {x y : Ins} (w : World) (h1 : x.op = 8) (h2 : y.op = 8) (h3 : ¬ x.path = y.path) : Calls Try.prog 32 #[.agg x.cells, .agg y.cells] w (RuleRes (rule7 x y) w) := by
  have hr : rule7 x y = none := by unfold rule7; rw [if_neg]; rintro ⟨a, b, c⟩; exact h3 c
  have ho := ops_yes h1 h2
  have hn := only_no ⟨8, x.path, ByteArray.empty, y.mode, 0⟩
  have e3 : (x.path.toList == y.path.toList) = false := by rw [beq_eq_false_iff_ne]; exact fun h => h3 (p18_toList_inj h)
  obtain ⟨xo, xp, xt, xm, xr⟩ := x
  obtain ⟨yo, yp, yt, ym, yr⟩ := y
  simp only [Ins.cells] at *
  have Hr := Lib.hid hr; clear hr
  have Ho := Lib.hid ho; clear ho
  have Hn := Lib.hid hn; clear hn
  clear h1 h2 h3
  go_enter Try.func32, Try.ntmps32
  go_upto_region 1 with (fail)
  refine wp_region_ordB (none) [(0, true), (1, true), (2, true), (3, true), (4, true), (5, true), (6, true), (7, false), (8, true), (9, true), (10, true), (11, true), (12, true), (13, true), (14, true), (15, false), (16, true), (17, true), (18, true), (19, true)] (by kernel_rfl) (by kernel_rfl) fun hG0 => ?_
  repeat (first
    | (refine ord_skipB rfl (by rfl) ?_; simp only [Act.put, List.setIfInBounds_toArray, List.set_cons_zero, List.set_cons_succ])
    | (refine ord_qE rfl (by rfl) ?_; apply Exists.intro; refine ⟨fun w' hc' => ?_, ?_⟩; (focus (go_simp; (try go_bits); (try simp only [↓IntWalk.iteOmega]); with_reducible rfl)); simp only [Act.put, List.setIfInBounds_toArray, List.set_cons_zero, List.set_cons_succ]))
  refine ord_eB rfl fun K hK => ?_
  go_wp2_with (go_at_call 25; refine (Ho.out _).mono ?_; rintro e w1 ⟨rfl, hb1⟩)
  have hG1 := grown_trans hG0 (grown_below hb1 (Nat.le_refl _))
  refine hK.out _ _ hG1 ?_
  clear hK K
  repeat (first
    | (refine ord_skipB rfl (by rfl) ?_; simp only [Act.put, List.setIfInBounds_toArray, List.set_cons_zero, List.set_cons_succ])
    | (refine ord_qE rfl (by rfl) ?_; apply Exists.intro; refine ⟨fun w' hc' => ?_, ?_⟩; (focus (go_simp; (try go_bits); (try simp only [↓IntWalk.iteOmega]); with_reducible rfl)); simp only [Act.put, List.setIfInBounds_toArray, List.set_cons_zero, List.set_cons_succ]))
  refine ord_eB rfl fun K hK => ?_
  go_wp2_with (go_at_call 24; refine (Hn.out _).mono ?_; rintro e w2 ⟨rfl, hb2⟩)
  have hG2 := grown_trans hG1 (grown_below hb2 (Nat.le_refl _))
  refine hK.out _ _ hG2 ?_
  clear hK K
  repeat (first
    | (refine ord_skipB rfl (by rfl) ?_; simp only [Act.put, List.setIfInBounds_toArray, List.set_cons_zero, List.set_cons_succ])
    | (refine ord_qE rfl (by rfl) ?_; apply Exists.intro; refine ⟨fun w' hc' => ?_, ?_⟩; (focus (go_simp; (try go_bits); (try simp only [↓IntWalk.iteOmega]); with_reducible rfl)); simp only [Act.put, List.setIfInBounds_toArray, List.set_cons_zero, List.set_cons_succ]))
  refine ord_end ?_
  go_wp2
  go_ret2
  have hB : Below w.heap.size w w2 := (((Below.refl w.heap.size w).alloc (Nat.le_refl _) _).alloc (by simp) _).trans (below_grown hG2 (by simp; omega) (fun g h => by cases h))
  refine ⟨hB, ?_⟩; first | (rw [Hr.out]; rfl) | rw [Hr.out]
set_option maxHeartbeats 1000000 in
theorem rule7_yes {x y : Ins} (w : World) (h1 : x.op = 8) (h2 : y.op = 8) (h3 : x.path = y.path) : Calls Try.prog 32 #[.agg x.cells, .agg y.cells] w (RuleRes (rule7 x y) w) := by
  have hr : rule7 x y = some [⟨8, x.path, ByteArray.empty, y.mode, 0⟩] := by unfold rule7; rw [if_pos ⟨h1, h2, h3⟩]
  have ho := ops_yes h1 h2
  have hn := only_yes ⟨8, x.path, ByteArray.empty, y.mode, 0⟩
  have e3 : (x.path.toList == y.path.toList) = true := by rw [h3]; simp
  obtain ⟨xo, xp, xt, xm, xr⟩ := x
  obtain ⟨yo, yp, yt, ym, yr⟩ := y
  simp only [Ins.cells] at *
  have Hr := Lib.hid hr; clear hr
  have Ho := Lib.hid ho; clear ho
  have Hn := Lib.hid hn; clear hn
  clear h1 h2 h3
  go_enter Try.func32, Try.ntmps32
  go_upto_region 1 with (fail)
  refine wp_region_ordB (none) [(0, true), (1, true), (2, true), (3, true), (4, true), (5, true), (6, true), (7, false), (8, true), (9, true), (10, true), (11, true), (12, true), (13, true), (14, true), (15, false), (16, true), (17, true), (18, true), (19, true)] (by kernel_rfl) (by kernel_rfl) fun hG0 => ?_
  repeat (first
    | (refine ord_skipB rfl (by rfl) ?_; simp only [Act.put, List.setIfInBounds_toArray, List.set_cons_zero, List.set_cons_succ])
    | (refine ord_qE rfl (by rfl) ?_; apply Exists.intro; refine ⟨fun w' hc' => ?_, ?_⟩; (focus (go_simp; (try go_bits); (try simp only [↓IntWalk.iteOmega]); with_reducible rfl)); simp only [Act.put, List.setIfInBounds_toArray, List.set_cons_zero, List.set_cons_succ]))
  refine ord_eB rfl fun K hK => ?_
  go_wp2_with (go_at_call 25; refine (Ho.out _).mono ?_; rintro e w1 ⟨rfl, hb1⟩)
  have hG1 := grown_trans hG0 (grown_below hb1 (Nat.le_refl _))
  refine hK.out _ _ hG1 ?_
  clear hK K
  repeat (first
    | (refine ord_skipB rfl (by rfl) ?_; simp only [Act.put, List.setIfInBounds_toArray, List.set_cons_zero, List.set_cons_succ])
    | (refine ord_qE rfl (by rfl) ?_; apply Exists.intro; refine ⟨fun w' hc' => ?_, ?_⟩; (focus (go_simp; (try go_bits); (try simp only [↓IntWalk.iteOmega]); with_reducible rfl)); simp only [Act.put, List.setIfInBounds_toArray, List.set_cons_zero, List.set_cons_succ]))
  refine ord_eB rfl fun K hK => ?_
  go_wp2_with (go_at_call 24; refine (Hn.out _).mono ?_; rintro e w2 ⟨g, rfl, hg, hc, hb2⟩)
  have hG2 := grown_trans hG1 (grown_below hb2 (Nat.le_refl _))
  refine hK.out _ _ hG2 ?_
  clear hK K
  repeat (first
    | (refine ord_skipB rfl (by rfl) ?_; simp only [Act.put, List.setIfInBounds_toArray, List.set_cons_zero, List.set_cons_succ])
    | (refine ord_qE rfl (by rfl) ?_; apply Exists.intro; refine ⟨fun w' hc' => ?_, ?_⟩; (focus (go_simp; (try go_bits); (try simp only [↓IntWalk.iteOmega]); with_reducible rfl)); simp only [Act.put, List.setIfInBounds_toArray, List.set_cons_zero, List.set_cons_succ]))
  refine ord_end ?_
  go_wp2
  go_ret2
  have hB : Below w.heap.size w w2 := (((Below.refl w.heap.size w).alloc (Nat.le_refl _) _).alloc (by simp) _).trans (below_grown hG2 (by simp; omega) (fun g h => by cases h))
  refine ⟨hB, ?_⟩; rw [Hr.out]; exact ⟨g, rfl, by have := hb1.size; simp at this; omega, hc⟩
theorem rule7_any (x y : Ins) (w : World) : Calls Try.prog 32 #[.agg x.cells, .agg y.cells] w (RuleRes (rule7 x y) w) := by
  by_cases h0 : x.op = 8 ∧ y.op = 8
  · by_cases h3 : x.path = y.path
    · exact rule7_yes w h0.1 h0.2 h3
    · exact rule7_eqno w h0.1 h0.2 h3
  · exact rule7_ops w h0

def rule8 (x y : Ins) : Option (List Ins) := if x.op = 1 ∧ y.op = 2 ∧ x.path = y.path then some [] else none
set_option maxHeartbeats 1000000 in
theorem rule8_ops {x y : Ins} (w : World) (h0 : ¬ (x.op = 1 ∧ y.op = 2)) : Calls Try.prog 33 #[.agg x.cells, .agg y.cells] w (RuleRes (rule8 x y) w) := by
  have hr : rule8 x y = none := by unfold rule8; rw [if_neg]; rintro ⟨a, b, c⟩; exact h0 ⟨a, b⟩
  have ho := ops_no h0
  have hn := nothing_any false
  obtain ⟨xo, xp, xt, xm, xr⟩ := x
  obtain ⟨yo, yp, yt, ym, yr⟩ := y
  simp only [Ins.cells] at *
  have Hr := Lib.hid hr; clear hr
  have Ho := Lib.hid ho; clear ho
  have Hn := Lib.hid hn; clear hn
  clear h0
  go_enter Try.func33, Try.ntmps33
  go_upto_region 1 with (fail)
  refine wp_region_textB (none) [(0, true), (1, true), (2, false), (3, true), (4, true), (5, true), (6, true), (7, true), (8, true), (9, true), (10, false), (11, true), (12, true), (13, true), (14, true)] (by kernel_rfl) fun hG0 => ?_
  repeat (first
    | (refine ord_skipB rfl (by rfl) ?_; simp only [Act.put, List.setIfInBounds_toArray, List.set_cons_zero, List.set_cons_succ])
    | (refine ord_qE rfl (by rfl) ?_; apply Exists.intro; refine ⟨fun w' hc' => ?_, ?_⟩; (focus (go_simp; (try go_bits); (try simp only [↓IntWalk.iteOmega]); with_reducible rfl)); simp only [Act.put, List.setIfInBounds_toArray, List.set_cons_zero, List.set_cons_succ]))
  refine ord_eB rfl fun K hK => ?_
  go_wp2_with (go_at_call 25; refine (Ho.out _).mono ?_; rintro e w1 ⟨rfl, hb1⟩)
  have hG1 := grown_trans hG0 (grown_below hb1 (Nat.le_refl _))
  refine hK.out _ _ hG1 ?_
  clear hK K
  repeat (first
    | (refine ord_skipB rfl (by rfl) ?_; simp only [Act.put, List.setIfInBounds_toArray, List.set_cons_zero, List.set_cons_succ])
    | (refine ord_qE rfl (by rfl) ?_; apply Exists.intro; refine ⟨fun w' hc' => ?_, ?_⟩; (focus (go_simp; (try go_bits); (try simp only [↓IntWalk.iteOmega]); with_reducible rfl)); simp only [Act.put, List.setIfInBounds_toArray, List.set_cons_zero, List.set_cons_succ]))
  refine ord_eB rfl fun K hK => ?_
  go_wp2_with (go_at_call 28; refine (Hn.out _).mono ?_; rintro e w2 ⟨rfl, hb2⟩)
  have hG2 := grown_trans hG1 (grown_below hb2 (Nat.le_refl _))
  refine hK.out _ _ hG2 ?_
  clear hK K
  repeat (first
    | (refine ord_skipB rfl (by rfl) ?_; simp only [Act.put, List.setIfInBounds_toArray, List.set_cons_zero, List.set_cons_succ])
    | (refine ord_qE rfl (by rfl) ?_; apply Exists.intro; refine ⟨fun w' hc' => ?_, ?_⟩; (focus (go_simp; (try go_bits); (try simp only [↓IntWalk.iteOmega]); with_reducible rfl)); simp only [Act.put, List.setIfInBounds_toArray, List.set_cons_zero, List.set_cons_succ]))
  refine ord_end ?_
  go_wp2
  go_ret2
  have hB : Below w.heap.size w w2 := (((Below.refl w.heap.size w).alloc (Nat.le_refl _) _).alloc (by simp) _).trans (below_grown hG2 (by simp; omega) (fun g h => by cases h))
  refine ⟨hB, ?_⟩; first | (rw [Hr.out]; rfl) | rw [Hr.out]
set_option maxHeartbeats 1000000 in
theorem rule8_eqno {x y : Ins} (w : World) (h1 : x.op = 1) (h2 : y.op = 2) (h3 : ¬ x.path = y.path) : Calls Try.prog 33 #[.agg x.cells, .agg y.cells] w (RuleRes (rule8 x y) w) := by
  have hr : rule8 x y = none := by unfold rule8; rw [if_neg]; rintro ⟨a, b, c⟩; exact h3 c
  have ho := ops_yes h1 h2
  have hn := nothing_any false
  have e3 : (x.path.toList == y.path.toList) = false := by rw [beq_eq_false_iff_ne]; exact fun h => h3 (p18_toList_inj h)
  obtain ⟨xo, xp, xt, xm, xr⟩ := x
  obtain ⟨yo, yp, yt, ym, yr⟩ := y
  simp only [Ins.cells] at *
  have Hr := Lib.hid hr; clear hr
  have Ho := Lib.hid ho; clear ho
  have Hn := Lib.hid hn; clear hn
  clear h1 h2 h3
  go_enter Try.func33, Try.ntmps33
  go_upto_region 1 with (fail)
  refine wp_region_textB (none) [(0, true), (1, true), (2, false), (3, true), (4, true), (5, true), (6, true), (7, true), (8, true), (9, true), (10, false), (11, true), (12, true), (13, true), (14, true)] (by kernel_rfl) fun hG0 => ?_
  repeat (first
    | (refine ord_skipB rfl (by rfl) ?_; simp only [Act.put, List.setIfInBounds_toArray, List.set_cons_zero, List.set_cons_succ])
    | (refine ord_qE rfl (by rfl) ?_; apply Exists.intro; refine ⟨fun w' hc' => ?_, ?_⟩; (focus (go_simp; (try go_bits); (try simp only [↓IntWalk.iteOmega]); with_reducible rfl)); simp only [Act.put, List.setIfInBounds_toArray, List.set_cons_zero, List.set_cons_succ]))
  refine ord_eB rfl fun K hK => ?_
  go_wp2_with (go_at_call 25; refine (Ho.out _).mono ?_; rintro e w1 ⟨rfl, hb1⟩)
  have hG1 := grown_trans hG0 (grown_below hb1 (Nat.le_refl _))
  refine hK.out _ _ hG1 ?_
  clear hK K
  repeat (first
    | (refine ord_skipB rfl (by rfl) ?_; simp only [Act.put, List.setIfInBounds_toArray, List.set_cons_zero, List.set_cons_succ])
    | (refine ord_qE rfl (by rfl) ?_; apply Exists.intro; refine ⟨fun w' hc' => ?_, ?_⟩; (focus (go_simp; (try go_bits); (try simp only [↓IntWalk.iteOmega]); with_reducible rfl)); simp only [Act.put, List.setIfInBounds_toArray, List.set_cons_zero, List.set_cons_succ]))
  refine ord_eB rfl fun K hK => ?_
  go_wp2_with (go_at_call 28; refine (Hn.out _).mono ?_; rintro e w2 ⟨rfl, hb2⟩)
  have hG2 := grown_trans hG1 (grown_below hb2 (Nat.le_refl _))
  refine hK.out _ _ hG2 ?_
  clear hK K
  repeat (first
    | (refine ord_skipB rfl (by rfl) ?_; simp only [Act.put, List.setIfInBounds_toArray, List.set_cons_zero, List.set_cons_succ])
    | (refine ord_qE rfl (by rfl) ?_; apply Exists.intro; refine ⟨fun w' hc' => ?_, ?_⟩; (focus (go_simp; (try go_bits); (try simp only [↓IntWalk.iteOmega]); with_reducible rfl)); simp only [Act.put, List.setIfInBounds_toArray, List.set_cons_zero, List.set_cons_succ]))
  refine ord_end ?_
  go_wp2
  go_ret2
  have hB : Below w.heap.size w w2 := (((Below.refl w.heap.size w).alloc (Nat.le_refl _) _).alloc (by simp) _).trans (below_grown hG2 (by simp; omega) (fun g h => by cases h))
  refine ⟨hB, ?_⟩; first | (rw [Hr.out]; rfl) | rw [Hr.out]
set_option maxHeartbeats 1000000 in
theorem rule8_yes {x y : Ins} (w : World) (h1 : x.op = 1) (h2 : y.op = 2) (h3 : x.path = y.path) : Calls Try.prog 33 #[.agg x.cells, .agg y.cells] w (RuleRes (rule8 x y) w) := by
  have hr : rule8 x y = some [] := by unfold rule8; rw [if_pos ⟨h1, h2, h3⟩]
  have ho := ops_yes h1 h2
  have hn := nothing_any true
  have e3 : (x.path.toList == y.path.toList) = true := by rw [h3]; simp
  obtain ⟨xo, xp, xt, xm, xr⟩ := x
  obtain ⟨yo, yp, yt, ym, yr⟩ := y
  simp only [Ins.cells] at *
  have Hr := Lib.hid hr; clear hr
  have Ho := Lib.hid ho; clear ho
  have Hn := Lib.hid hn; clear hn
  clear h1 h2 h3
  go_enter Try.func33, Try.ntmps33
  go_upto_region 1 with (fail)
  refine wp_region_textB (none) [(0, true), (1, true), (2, false), (3, true), (4, true), (5, true), (6, true), (7, true), (8, true), (9, true), (10, false), (11, true), (12, true), (13, true), (14, true)] (by kernel_rfl) fun hG0 => ?_
  repeat (first
    | (refine ord_skipB rfl (by rfl) ?_; simp only [Act.put, List.setIfInBounds_toArray, List.set_cons_zero, List.set_cons_succ])
    | (refine ord_qE rfl (by rfl) ?_; apply Exists.intro; refine ⟨fun w' hc' => ?_, ?_⟩; (focus (go_simp; (try go_bits); (try simp only [↓IntWalk.iteOmega]); with_reducible rfl)); simp only [Act.put, List.setIfInBounds_toArray, List.set_cons_zero, List.set_cons_succ]))
  refine ord_eB rfl fun K hK => ?_
  go_wp2_with (go_at_call 25; refine (Ho.out _).mono ?_; rintro e w1 ⟨rfl, hb1⟩)
  have hG1 := grown_trans hG0 (grown_below hb1 (Nat.le_refl _))
  refine hK.out _ _ hG1 ?_
  clear hK K
  repeat (first
    | (refine ord_skipB rfl (by rfl) ?_; simp only [Act.put, List.setIfInBounds_toArray, List.set_cons_zero, List.set_cons_succ])
    | (refine ord_qE rfl (by rfl) ?_; apply Exists.intro; refine ⟨fun w' hc' => ?_, ?_⟩; (focus (go_simp; (try go_bits); (try simp only [↓IntWalk.iteOmega]); with_reducible rfl)); simp only [Act.put, List.setIfInBounds_toArray, List.set_cons_zero, List.set_cons_succ]))
  refine ord_eB rfl fun K hK => ?_
  go_wp2_with (go_at_call 28; refine (Hn.out _).mono ?_; rintro e w2 ⟨rfl, hb2⟩)
  have hG2 := grown_trans hG1 (grown_below hb2 (Nat.le_refl _))
  refine hK.out _ _ hG2 ?_
  clear hK K
  repeat (first
    | (refine ord_skipB rfl (by rfl) ?_; simp only [Act.put, List.setIfInBounds_toArray, List.set_cons_zero, List.set_cons_succ])
    | (refine ord_qE rfl (by rfl) ?_; apply Exists.intro; refine ⟨fun w' hc' => ?_, ?_⟩; (focus (go_simp; (try go_bits); (try simp only [↓IntWalk.iteOmega]); with_reducible rfl)); simp only [Act.put, List.setIfInBounds_toArray, List.set_cons_zero, List.set_cons_succ]))
  refine ord_end ?_
  go_wp2
  go_ret2
  have hB : Below w.heap.size w w2 := (((Below.refl w.heap.size w).alloc (Nat.le_refl _) _).alloc (by simp) _).trans (below_grown hG2 (by simp; omega) (fun g h => by cases h))
  refine ⟨hB, ?_⟩; first | (rw [Hr.out]; rfl) | rw [Hr.out]
theorem rule8_any (x y : Ins) (w : World) : Calls Try.prog 33 #[.agg x.cells, .agg y.cells] w (RuleRes (rule8 x y) w) := by
  by_cases h0 : x.op = 1 ∧ y.op = 2
  · by_cases h3 : x.path = y.path
    · exact rule8_yes w h0.1 h0.2 h3
    · exact rule8_eqno w h0.1 h0.2 h3
  · exact rule8_ops w h0

def rule9 (x y : Ins) : Option (List Ins) := if x.op = 6 ∧ y.op = 5 ∧ x.path = y.path then some [] else none
set_option maxHeartbeats 1000000 in
theorem rule9_ops {x y : Ins} (w : World) (h0 : ¬ (x.op = 6 ∧ y.op = 5)) : Calls Try.prog 34 #[.agg x.cells, .agg y.cells] w (RuleRes (rule9 x y) w) := by
  have hr : rule9 x y = none := by unfold rule9; rw [if_neg]; rintro ⟨a, b, c⟩; exact h0 ⟨a, b⟩
  have ho := ops_no h0
  have hn := nothing_any false
  obtain ⟨xo, xp, xt, xm, xr⟩ := x
  obtain ⟨yo, yp, yt, ym, yr⟩ := y
  simp only [Ins.cells] at *
  have Hr := Lib.hid hr; clear hr
  have Ho := Lib.hid ho; clear ho
  have Hn := Lib.hid hn; clear hn
  clear h0
  go_enter Try.func34, Try.ntmps34
  go_upto_region 1 with (fail)
  refine wp_region_textB (none) [(0, true), (1, true), (2, false), (3, true), (4, true), (5, true), (6, true), (7, true), (8, true), (9, true), (10, false), (11, true), (12, true), (13, true), (14, true)] (by kernel_rfl) fun hG0 => ?_
  repeat (first
    | (refine ord_skipB rfl (by rfl) ?_; simp only [Act.put, List.setIfInBounds_toArray, List.set_cons_zero, List.set_cons_succ])
    | (refine ord_qE rfl (by rfl) ?_; apply Exists.intro; refine ⟨fun w' hc' => ?_, ?_⟩; (focus (go_simp; (try go_bits); (try simp only [↓IntWalk.iteOmega]); with_reducible rfl)); simp only [Act.put, List.setIfInBounds_toArray, List.set_cons_zero, List.set_cons_succ]))
  refine ord_eB rfl fun K hK => ?_
  go_wp2_with (go_at_call 25; refine (Ho.out _).mono ?_; rintro e w1 ⟨rfl, hb1⟩)
  have hG1 := grown_trans hG0 (grown_below hb1 (Nat.le_refl _))
  refine hK.out _ _ hG1 ?_
  clear hK K
  repeat (first
    | (refine ord_skipB rfl (by rfl) ?_; simp only [Act.put, List.setIfInBounds_toArray, List.set_cons_zero, List.set_cons_succ])
    | (refine ord_qE rfl (by rfl) ?_; apply Exists.intro; refine ⟨fun w' hc' => ?_, ?_⟩; (focus (go_simp; (try go_bits); (try simp only [↓IntWalk.iteOmega]); with_reducible rfl)); simp only [Act.put, List.setIfInBounds_toArray, List.set_cons_zero, List.set_cons_succ]))
  refine ord_eB rfl fun K hK => ?_
  go_wp2_with (go_at_call 28; refine (Hn.out _).mono ?_; rintro e w2 ⟨rfl, hb2⟩)
  have hG2 := grown_trans hG1 (grown_below hb2 (Nat.le_refl _))
  refine hK.out _ _ hG2 ?_
  clear hK K
  repeat (first
    | (refine ord_skipB rfl (by rfl) ?_; simp only [Act.put, List.setIfInBounds_toArray, List.set_cons_zero, List.set_cons_succ])
    | (refine ord_qE rfl (by rfl) ?_; apply Exists.intro; refine ⟨fun w' hc' => ?_, ?_⟩; (focus (go_simp; (try go_bits); (try simp only [↓IntWalk.iteOmega]); with_reducible rfl)); simp only [Act.put, List.setIfInBounds_toArray, List.set_cons_zero, List.set_cons_succ]))
  refine ord_end ?_
  go_wp2
  go_ret2
  have hB : Below w.heap.size w w2 := (((Below.refl w.heap.size w).alloc (Nat.le_refl _) _).alloc (by simp) _).trans (below_grown hG2 (by simp; omega) (fun g h => by cases h))
  refine ⟨hB, ?_⟩; first | (rw [Hr.out]; rfl) | rw [Hr.out]
set_option maxHeartbeats 1000000 in
theorem rule9_eqno {x y : Ins} (w : World) (h1 : x.op = 6) (h2 : y.op = 5) (h3 : ¬ x.path = y.path) : Calls Try.prog 34 #[.agg x.cells, .agg y.cells] w (RuleRes (rule9 x y) w) := by
  have hr : rule9 x y = none := by unfold rule9; rw [if_neg]; rintro ⟨a, b, c⟩; exact h3 c
  have ho := ops_yes h1 h2
  have hn := nothing_any false
  have e3 : (x.path.toList == y.path.toList) = false := by rw [beq_eq_false_iff_ne]; exact fun h => h3 (p18_toList_inj h)
  obtain ⟨xo, xp, xt, xm, xr⟩ := x
  obtain ⟨yo, yp, yt, ym, yr⟩ := y
  simp only [Ins.cells] at *
  have Hr := Lib.hid hr; clear hr
  have Ho := Lib.hid ho; clear ho
  have Hn := Lib.hid hn; clear hn
  clear h1 h2 h3
  go_enter Try.func34, Try.ntmps34
  go_upto_region 1 with (fail)
  refine wp_region_textB (none) [(0, true), (1, true), (2, false), (3, true), (4, true), (5, true), (6, true), (7, true), (8, true), (9, true), (10, false), (11, true), (12, true), (13, true), (14, true)] (by kernel_rfl) fun hG0 => ?_
  repeat (first
    | (refine ord_skipB rfl (by rfl) ?_; simp only [Act.put, List.setIfInBounds_toArray, List.set_cons_zero, List.set_cons_succ])
    | (refine ord_qE rfl (by rfl) ?_; apply Exists.intro; refine ⟨fun w' hc' => ?_, ?_⟩; (focus (go_simp; (try go_bits); (try simp only [↓IntWalk.iteOmega]); with_reducible rfl)); simp only [Act.put, List.setIfInBounds_toArray, List.set_cons_zero, List.set_cons_succ]))
  refine ord_eB rfl fun K hK => ?_
  go_wp2_with (go_at_call 25; refine (Ho.out _).mono ?_; rintro e w1 ⟨rfl, hb1⟩)
  have hG1 := grown_trans hG0 (grown_below hb1 (Nat.le_refl _))
  refine hK.out _ _ hG1 ?_
  clear hK K
  repeat (first
    | (refine ord_skipB rfl (by rfl) ?_; simp only [Act.put, List.setIfInBounds_toArray, List.set_cons_zero, List.set_cons_succ])
    | (refine ord_qE rfl (by rfl) ?_; apply Exists.intro; refine ⟨fun w' hc' => ?_, ?_⟩; (focus (go_simp; (try go_bits); (try simp only [↓IntWalk.iteOmega]); with_reducible rfl)); simp only [Act.put, List.setIfInBounds_toArray, List.set_cons_zero, List.set_cons_succ]))
  refine ord_eB rfl fun K hK => ?_
  go_wp2_with (go_at_call 28; refine (Hn.out _).mono ?_; rintro e w2 ⟨rfl, hb2⟩)
  have hG2 := grown_trans hG1 (grown_below hb2 (Nat.le_refl _))
  refine hK.out _ _ hG2 ?_
  clear hK K
  repeat (first
    | (refine ord_skipB rfl (by rfl) ?_; simp only [Act.put, List.setIfInBounds_toArray, List.set_cons_zero, List.set_cons_succ])
    | (refine ord_qE rfl (by rfl) ?_; apply Exists.intro; refine ⟨fun w' hc' => ?_, ?_⟩; (focus (go_simp; (try go_bits); (try simp only [↓IntWalk.iteOmega]); with_reducible rfl)); simp only [Act.put, List.setIfInBounds_toArray, List.set_cons_zero, List.set_cons_succ]))
  refine ord_end ?_
  go_wp2
  go_ret2
  have hB : Below w.heap.size w w2 := (((Below.refl w.heap.size w).alloc (Nat.le_refl _) _).alloc (by simp) _).trans (below_grown hG2 (by simp; omega) (fun g h => by cases h))
  refine ⟨hB, ?_⟩; first | (rw [Hr.out]; rfl) | rw [Hr.out]
set_option maxHeartbeats 1000000 in
theorem rule9_yes {x y : Ins} (w : World) (h1 : x.op = 6) (h2 : y.op = 5) (h3 : x.path = y.path) : Calls Try.prog 34 #[.agg x.cells, .agg y.cells] w (RuleRes (rule9 x y) w) := by
  have hr : rule9 x y = some [] := by unfold rule9; rw [if_pos ⟨h1, h2, h3⟩]
  have ho := ops_yes h1 h2
  have hn := nothing_any true
  have e3 : (x.path.toList == y.path.toList) = true := by rw [h3]; simp
  obtain ⟨xo, xp, xt, xm, xr⟩ := x
  obtain ⟨yo, yp, yt, ym, yr⟩ := y
  simp only [Ins.cells] at *
  have Hr := Lib.hid hr; clear hr
  have Ho := Lib.hid ho; clear ho
  have Hn := Lib.hid hn; clear hn
  clear h1 h2 h3
  go_enter Try.func34, Try.ntmps34
  go_upto_region 1 with (fail)
  refine wp_region_textB (none) [(0, true), (1, true), (2, false), (3, true), (4, true), (5, true), (6, true), (7, true), (8, true), (9, true), (10, false), (11, true), (12, true), (13, true), (14, true)] (by kernel_rfl) fun hG0 => ?_
  repeat (first
    | (refine ord_skipB rfl (by rfl) ?_; simp only [Act.put, List.setIfInBounds_toArray, List.set_cons_zero, List.set_cons_succ])
    | (refine ord_qE rfl (by rfl) ?_; apply Exists.intro; refine ⟨fun w' hc' => ?_, ?_⟩; (focus (go_simp; (try go_bits); (try simp only [↓IntWalk.iteOmega]); with_reducible rfl)); simp only [Act.put, List.setIfInBounds_toArray, List.set_cons_zero, List.set_cons_succ]))
  refine ord_eB rfl fun K hK => ?_
  go_wp2_with (go_at_call 25; refine (Ho.out _).mono ?_; rintro e w1 ⟨rfl, hb1⟩)
  have hG1 := grown_trans hG0 (grown_below hb1 (Nat.le_refl _))
  refine hK.out _ _ hG1 ?_
  clear hK K
  repeat (first
    | (refine ord_skipB rfl (by rfl) ?_; simp only [Act.put, List.setIfInBounds_toArray, List.set_cons_zero, List.set_cons_succ])
    | (refine ord_qE rfl (by rfl) ?_; apply Exists.intro; refine ⟨fun w' hc' => ?_, ?_⟩; (focus (go_simp; (try go_bits); (try simp only [↓IntWalk.iteOmega]); with_reducible rfl)); simp only [Act.put, List.setIfInBounds_toArray, List.set_cons_zero, List.set_cons_succ]))
  refine ord_eB rfl fun K hK => ?_
  go_wp2_with (go_at_call 28; refine (Hn.out _).mono ?_; rintro e w2 ⟨rfl, hb2⟩)
  have hG2 := grown_trans hG1 (grown_below hb2 (Nat.le_refl _))
  refine hK.out _ _ hG2 ?_
  clear hK K
  repeat (first
    | (refine ord_skipB rfl (by rfl) ?_; simp only [Act.put, List.setIfInBounds_toArray, List.set_cons_zero, List.set_cons_succ])
    | (refine ord_qE rfl (by rfl) ?_; apply Exists.intro; refine ⟨fun w' hc' => ?_, ?_⟩; (focus (go_simp; (try go_bits); (try simp only [↓IntWalk.iteOmega]); with_reducible rfl)); simp only [Act.put, List.setIfInBounds_toArray, List.set_cons_zero, List.set_cons_succ]))
  refine ord_end ?_
  go_wp2
  go_ret2
  have hB : Below w.heap.size w w2 := (((Below.refl w.heap.size w).alloc (Nat.le_refl _) _).alloc (by simp) _).trans (below_grown hG2 (by simp; omega) (fun g h => by cases h))
  refine ⟨hB, ?_⟩; first | (rw [Hr.out]; rfl) | rw [Hr.out]
theorem rule9_any (x y : Ins) (w : World) : Calls Try.prog 34 #[.agg x.cells, .agg y.cells] w (RuleRes (rule9 x y) w) := by
  by_cases h0 : x.op = 6 ∧ y.op = 5
  · by_cases h3 : x.path = y.path
    · exact rule9_yes w h0.1 h0.2 h3
    · exact rule9_eqno w h0.1 h0.2 h3
  · exact rule9_ops w h0

def rule10 (x y : Ins) : Option (List Ins) := if x.op = 7 ∧ y.op = 5 ∧ x.dst = y.path then some [] else none
set_option maxHeartbeats 1000000 in
theorem rule10_ops {x y : Ins} (w : World) (h0 : ¬ (x.op = 7 ∧ y.op = 5)) : Calls Try.prog 35 #[.agg x.cells, .agg y.cells] w (RuleRes (rule10 x y) w) := by
  have hr : rule10 x y = none := by unfold rule10; rw [if_neg]; rintro ⟨a, b, c⟩; exact h0 ⟨a, b⟩
  have ho := ops_no h0
  have hn := nothing_any false
  obtain ⟨xo, xp, xt, xm, xr⟩ := x
  obtain ⟨yo, yp, yt, ym, yr⟩ := y
  simp only [Ins.cells] at *
  have Hr := Lib.hid hr; clear hr
  have Ho := Lib.hid ho; clear ho
  have Hn := Lib.hid hn; clear hn
  clear h0
  go_enter Try.func35, Try.ntmps35
  go_upto_region 1 with (fail)
  refine wp_region_textB (none) [(0, true), (1, true), (2, false), (3, true), (4, true), (5, true), (6, true), (7, true), (8, true), (9, true), (10, false), (11, true), (12, true), (13, true), (14, true)] (by kernel_rfl) fun hG0 => ?_
  repeat (first
    | (refine ord_skipB rfl (by rfl) ?_; simp only [Act.put, List.setIfInBounds_toArray, List.set_cons_zero, List.set_cons_succ])
    | (refine ord_qE rfl (by rfl) ?_; apply Exists.intro; refine ⟨fun w' hc' => ?_, ?_⟩; (focus (go_simp; (try go_bits); (try simp only [↓IntWalk.iteOmega]); with_reducible rfl)); simp only [Act.put, List.setIfInBounds_toArray, List.set_cons_zero, List.set_cons_succ]))
  refine ord_eB rfl fun K hK => ?_
  go_wp2_with (go_at_call 25; refine (Ho.out _).mono ?_; rintro e w1 ⟨rfl, hb1⟩)
  have hG1 := grown_trans hG0 (grown_below hb1 (Nat.le_refl _))
  refine hK.out _ _ hG1 ?_
  clear hK K
  repeat (first
    | (refine ord_skipB rfl (by rfl) ?_; simp only [Act.put, List.setIfInBounds_toArray, List.set_cons_zero, List.set_cons_succ])
    | (refine ord_qE rfl (by rfl) ?_; apply Exists.intro; refine ⟨fun w' hc' => ?_, ?_⟩; (focus (go_simp; (try go_bits); (try simp only [↓IntWalk.iteOmega]); with_reducible rfl)); simp only [Act.put, List.setIfInBounds_toArray, List.set_cons_zero, List.set_cons_succ]))
  refine ord_eB rfl fun K hK => ?_
  go_wp2_with (go_at_call 28; refine (Hn.out _).mono ?_; rintro e w2 ⟨rfl, hb2⟩)
  have hG2 := grown_trans hG1 (grown_below hb2 (Nat.le_refl _))
  refine hK.out _ _ hG2 ?_
  clear hK K
  repeat (first
    | (refine ord_skipB rfl (by rfl) ?_; simp only [Act.put, List.setIfInBounds_toArray, List.set_cons_zero, List.set_cons_succ])
    | (refine ord_qE rfl (by rfl) ?_; apply Exists.intro; refine ⟨fun w' hc' => ?_, ?_⟩; (focus (go_simp; (try go_bits); (try simp only [↓IntWalk.iteOmega]); with_reducible rfl)); simp only [Act.put, List.setIfInBounds_toArray, List.set_cons_zero, List.set_cons_succ]))
  refine ord_end ?_
  go_wp2
  go_ret2
  have hB : Below w.heap.size w w2 := (((Below.refl w.heap.size w).alloc (Nat.le_refl _) _).alloc (by simp) _).trans (below_grown hG2 (by simp; omega) (fun g h => by cases h))
  refine ⟨hB, ?_⟩; first | (rw [Hr.out]; rfl) | rw [Hr.out]
set_option maxHeartbeats 1000000 in
theorem rule10_eqno {x y : Ins} (w : World) (h1 : x.op = 7) (h2 : y.op = 5) (h3 : ¬ x.dst = y.path) : Calls Try.prog 35 #[.agg x.cells, .agg y.cells] w (RuleRes (rule10 x y) w) := by
  have hr : rule10 x y = none := by unfold rule10; rw [if_neg]; rintro ⟨a, b, c⟩; exact h3 c
  have ho := ops_yes h1 h2
  have hn := nothing_any false
  have e3 : (x.dst.toList == y.path.toList) = false := by rw [beq_eq_false_iff_ne]; exact fun h => h3 (p18_toList_inj h)
  obtain ⟨xo, xp, xt, xm, xr⟩ := x
  obtain ⟨yo, yp, yt, ym, yr⟩ := y
  simp only [Ins.cells] at *
  have Hr := Lib.hid hr; clear hr
  have Ho := Lib.hid ho; clear ho
  have Hn := Lib.hid hn; clear hn
  clear h1 h2 h3
  go_enter Try.func35, Try.ntmps35
  go_upto_region 1 with (fail)
  refine wp_region_textB (none) [(0, true), (1, true), (2, false), (3, true), (4, true), (5, true), (6, true), (7, true), (8, true), (9, true), (10, false), (11, true), (12, true), (13, true), (14, true)] (by kernel_rfl) fun hG0 => ?_
  repeat (first
    | (refine ord_skipB rfl (by rfl) ?_; simp only [Act.put, List.setIfInBounds_toArray, List.set_cons_zero, List.set_cons_succ])
    | (refine ord_qE rfl (by rfl) ?_; apply Exists.intro; refine ⟨fun w' hc' => ?_, ?_⟩; (focus (go_simp; (try go_bits); (try simp only [↓IntWalk.iteOmega]); with_reducible rfl)); simp only [Act.put, List.setIfInBounds_toArray, List.set_cons_zero, List.set_cons_succ]))
  refine ord_eB rfl fun K hK => ?_
  go_wp2_with (go_at_call 25; refine (Ho.out _).mono ?_; rintro e w1 ⟨rfl, hb1⟩)
  have hG1 := grown_trans hG0 (grown_below hb1 (Nat.le_refl _))
  refine hK.out _ _ hG1 ?_
  clear hK K
  repeat (first
    | (refine ord_skipB rfl (by rfl) ?_; simp only [Act.put, List.setIfInBounds_toArray, List.set_cons_zero, List.set_cons_succ])
    | (refine ord_qE rfl (by rfl) ?_; apply Exists.intro; refine ⟨fun w' hc' => ?_, ?_⟩; (focus (go_simp; (try go_bits); (try simp only [↓IntWalk.iteOmega]); with_reducible rfl)); simp only [Act.put, List.setIfInBounds_toArray, List.set_cons_zero, List.set_cons_succ]))
  refine ord_eB rfl fun K hK => ?_
  go_wp2_with (go_at_call 28; refine (Hn.out _).mono ?_; rintro e w2 ⟨rfl, hb2⟩)
  have hG2 := grown_trans hG1 (grown_below hb2 (Nat.le_refl _))
  refine hK.out _ _ hG2 ?_
  clear hK K
  repeat (first
    | (refine ord_skipB rfl (by rfl) ?_; simp only [Act.put, List.setIfInBounds_toArray, List.set_cons_zero, List.set_cons_succ])
    | (refine ord_qE rfl (by rfl) ?_; apply Exists.intro; refine ⟨fun w' hc' => ?_, ?_⟩; (focus (go_simp; (try go_bits); (try simp only [↓IntWalk.iteOmega]); with_reducible rfl)); simp only [Act.put, List.setIfInBounds_toArray, List.set_cons_zero, List.set_cons_succ]))
  refine ord_end ?_
  go_wp2
  go_ret2
  have hB : Below w.heap.size w w2 := (((Below.refl w.heap.size w).alloc (Nat.le_refl _) _).alloc (by simp) _).trans (below_grown hG2 (by simp; omega) (fun g h => by cases h))
  refine ⟨hB, ?_⟩; first | (rw [Hr.out]; rfl) | rw [Hr.out]
set_option maxHeartbeats 1000000 in
theorem rule10_yes {x y : Ins} (w : World) (h1 : x.op = 7) (h2 : y.op = 5) (h3 : x.dst = y.path) : Calls Try.prog 35 #[.agg x.cells, .agg y.cells] w (RuleRes (rule10 x y) w) := by
  have hr : rule10 x y = some [] := by unfold rule10; rw [if_pos ⟨h1, h2, h3⟩]
  have ho := ops_yes h1 h2
  have hn := nothing_any true
  have e3 : (x.dst.toList == y.path.toList) = true := by rw [h3]; simp
  obtain ⟨xo, xp, xt, xm, xr⟩ := x
  obtain ⟨yo, yp, yt, ym, yr⟩ := y
  simp only [Ins.cells] at *
  have Hr := Lib.hid hr; clear hr
  have Ho := Lib.hid ho; clear ho
  have Hn := Lib.hid hn; clear hn
  clear h1 h2 h3
  go_enter Try.func35, Try.ntmps35
  go_upto_region 1 with (fail)
  refine wp_region_textB (none) [(0, true), (1, true), (2, false), (3, true), (4, true), (5, true), (6, true), (7, true), (8, true), (9, true), (10, false), (11, true), (12, true), (13, true), (14, true)] (by kernel_rfl) fun hG0 => ?_
  repeat (first
    | (refine ord_skipB rfl (by rfl) ?_; simp only [Act.put, List.setIfInBounds_toArray, List.set_cons_zero, List.set_cons_succ])
    | (refine ord_qE rfl (by rfl) ?_; apply Exists.intro; refine ⟨fun w' hc' => ?_, ?_⟩; (focus (go_simp; (try go_bits); (try simp only [↓IntWalk.iteOmega]); with_reducible rfl)); simp only [Act.put, List.setIfInBounds_toArray, List.set_cons_zero, List.set_cons_succ]))
  refine ord_eB rfl fun K hK => ?_
  go_wp2_with (go_at_call 25; refine (Ho.out _).mono ?_; rintro e w1 ⟨rfl, hb1⟩)
  have hG1 := grown_trans hG0 (grown_below hb1 (Nat.le_refl _))
  refine hK.out _ _ hG1 ?_
  clear hK K
  repeat (first
    | (refine ord_skipB rfl (by rfl) ?_; simp only [Act.put, List.setIfInBounds_toArray, List.set_cons_zero, List.set_cons_succ])
    | (refine ord_qE rfl (by rfl) ?_; apply Exists.intro; refine ⟨fun w' hc' => ?_, ?_⟩; (focus (go_simp; (try go_bits); (try simp only [↓IntWalk.iteOmega]); with_reducible rfl)); simp only [Act.put, List.setIfInBounds_toArray, List.set_cons_zero, List.set_cons_succ]))
  refine ord_eB rfl fun K hK => ?_
  go_wp2_with (go_at_call 28; refine (Hn.out _).mono ?_; rintro e w2 ⟨rfl, hb2⟩)
  have hG2 := grown_trans hG1 (grown_below hb2 (Nat.le_refl _))
  refine hK.out _ _ hG2 ?_
  clear hK K
  repeat (first
    | (refine ord_skipB rfl (by rfl) ?_; simp only [Act.put, List.setIfInBounds_toArray, List.set_cons_zero, List.set_cons_succ])
    | (refine ord_qE rfl (by rfl) ?_; apply Exists.intro; refine ⟨fun w' hc' => ?_, ?_⟩; (focus (go_simp; (try go_bits); (try simp only [↓IntWalk.iteOmega]); with_reducible rfl)); simp only [Act.put, List.setIfInBounds_toArray, List.set_cons_zero, List.set_cons_succ]))
  refine ord_end ?_
  go_wp2
  go_ret2
  have hB : Below w.heap.size w w2 := (((Below.refl w.heap.size w).alloc (Nat.le_refl _) _).alloc (by simp) _).trans (below_grown hG2 (by simp; omega) (fun g h => by cases h))
  refine ⟨hB, ?_⟩; first | (rw [Hr.out]; rfl) | rw [Hr.out]
theorem rule10_any (x y : Ins) (w : World) : Calls Try.prog 35 #[.agg x.cells, .agg y.cells] w (RuleRes (rule10 x y) w) := by
  by_cases h0 : x.op = 7 ∧ y.op = 5
  · by_cases h3 : x.dst = y.path
    · exact rule10_yes w h0.1 h0.2 h3
    · exact rule10_eqno w h0.1 h0.2 h3
  · exact rule10_ops w h0

def rule11 (x y : Ins) : Option (List Ins) := if x.op = 4 ∧ y.op = 5 ∧ x.dst = y.path then some [] else none
set_option maxHeartbeats 1000000 in
theorem rule11_ops {x y : Ins} (w : World) (h0 : ¬ (x.op = 4 ∧ y.op = 5)) : Calls Try.prog 36 #[.agg x.cells, .agg y.cells] w (RuleRes (rule11 x y) w) := by
  have hr : rule11 x y = none := by unfold rule11; rw [if_neg]; rintro ⟨a, b, c⟩; exact h0 ⟨a, b⟩
  have ho := ops_no h0
  have hn := nothing_any false
  obtain ⟨xo, xp, xt, xm, xr⟩ := x
  obtain ⟨yo, yp, yt, ym, yr⟩ := y
  simp only [Ins.cells] at *
  have Hr := Lib.hid hr; clear hr
  have Ho := Lib.hid ho; clear ho
  have Hn := Lib.hid hn; clear hn
  clear h0
  go_enter Try.func36, Try.ntmps36
  go_upto_region 1 with (fail)
  refine wp_region_textB (none) [(0, true), (1, true), (2, false), (3, true), (4, true), (5, true), (6, true), (7, true), (8, true), (9, true), (10, false), (11, true), (12, true), (13, true), (14, true)] (by kernel_rfl) fun hG0 => ?_
  repeat (first
    | (refine ord_skipB rfl (by rfl) ?_; simp only [Act.put, List.setIfInBounds_toArray, List.set_cons_zero, List.set_cons_succ])
    | (refine ord_qE rfl (by rfl) ?_; apply Exists.intro; refine ⟨fun w' hc' => ?_, ?_⟩; (focus (go_simp; (try go_bits); (try simp only [↓IntWalk.iteOmega]); with_reducible rfl)); simp only [Act.put, List.setIfInBounds_toArray, List.set_cons_zero, List.set_cons_succ]))
  refine ord_eB rfl fun K hK => ?_
  go_wp2_with (go_at_call 25; refine (Ho.out _).mono ?_; rintro e w1 ⟨rfl, hb1⟩)
  have hG1 := grown_trans hG0 (grown_below hb1 (Nat.le_refl _))
  refine hK.out _ _ hG1 ?_
  clear hK K
  repeat (first
    | (refine ord_skipB rfl (by rfl) ?_; simp only [Act.put, List.setIfInBounds_toArray, List.set_cons_zero, List.set_cons_succ])
    | (refine ord_qE rfl (by rfl) ?_; apply Exists.intro; refine ⟨fun w' hc' => ?_, ?_⟩; (focus (go_simp; (try go_bits); (try simp only [↓IntWalk.iteOmega]); with_reducible rfl)); simp only [Act.put, List.setIfInBounds_toArray, List.set_cons_zero, List.set_cons_succ]))
  refine ord_eB rfl fun K hK => ?_
  go_wp2_with (go_at_call 28; refine (Hn.out _).mono ?_; rintro e w2 ⟨rfl, hb2⟩)
  have hG2 := grown_trans hG1 (grown_below hb2 (Nat.le_refl _))
  refine hK.out _ _ hG2 ?_
  clear hK K
  repeat (first
    | (refine ord_skipB rfl (by rfl) ?_; simp only [Act.put, List.setIfInBounds_toArray, List.set_cons_zero, List.set_cons_succ])
    | (refine ord_qE rfl (by rfl) ?_; apply Exists.intro; refine ⟨fun w' hc' => ?_, ?_⟩; (focus (go_simp; (try go_bits); (try simp only [↓IntWalk.iteOmega]); with_reducible rfl)); simp only [Act.put, List.setIfInBounds_toArray, List.set_cons_zero, List.set_cons_succ]))
  refine ord_end ?_
  go_wp2
  go_ret2
  have hB : Below w.heap.size w w2 := (((Below.refl w.heap.size w).alloc (Nat.le_refl _) _).alloc (by simp) _).trans (below_grown hG2 (by simp; omega) (fun g h => by cases h))
  refine ⟨hB, ?_⟩; first | (rw [Hr.out]; rfl) | rw [Hr.out]
set_option maxHeartbeats 1000000 in
theorem rule11_eqno {x y : Ins} (w : World) (h1 : x.op = 4) (h2 : y.op = 5) (h3 : ¬ x.dst = y.path) : Calls Try.prog 36 #[.agg x.cells, .agg y.cells] w (RuleRes (rule11 x y) w) := by
  have hr : rule11 x y = none := by unfold rule11; rw [if_neg]; rintro ⟨a, b, c⟩; exact h3 c
  have ho := ops_yes h1 h2
  have hn := nothing_any false
  have e3 : (x.dst.toList == y.path.toList) = false := by rw [beq_eq_false_iff_ne]; exact fun h => h3 (p18_toList_inj h)
  obtain ⟨xo, xp, xt, xm, xr⟩ := x
  obtain ⟨yo, yp, yt, ym, yr⟩ := y
  simp only [Ins.cells] at *
  have Hr := Lib.hid hr; clear hr
  have Ho := Lib.hid ho; clear ho
  have Hn := Lib.hid hn; clear hn
  clear h1 h2 h3
  go_enter Try.func36, Try.ntmps36
  go_upto_region 1 with (fail)
  refine wp_region_textB (none) [(0, true), (1, true), (2, false), (3, true), (4, true), (5, true), (6, true), (7, true), (8, true), (9, true), (10, false), (11, true), (12, true), (13, true), (14, true)] (by kernel_rfl) fun hG0 => ?_
  repeat (first
    | (refine ord_skipB rfl (by rfl) ?_; simp only [Act.put, List.setIfInBounds_toArray, List.set_cons_zero, List.set_cons_succ])
    | (refine ord_qE rfl (by rfl) ?_; apply Exists.intro; refine ⟨fun w' hc' => ?_, ?_⟩; (focus (go_simp; (try go_bits); (try simp only [↓IntWalk.iteOmega]); with_reducible rfl)); simp only [Act.put, List.setIfInBounds_toArray, List.set_cons_zero, List.set_cons_succ]))
  refine ord_eB rfl fun K hK => ?_
  go_wp2_with (go_at_call 25; refine (Ho.out _).mono ?_; rintro e w1 ⟨rfl, hb1⟩)
  have hG1 := grown_trans hG0 (grown_below hb1 (Nat.le_refl _))
  refine hK.out _ _ hG1 ?_
  clear hK K
  repeat (first
    | (refine ord_skipB rfl (by rfl) ?_; simp only [Act.put, List.setIfInBounds_toArray, List.set_cons_zero, List.set_cons_succ])
    | (refine ord_qE rfl (by rfl) ?_; apply Exists.intro; refine ⟨fun w' hc' => ?_, ?_⟩; (focus (go_simp; (try go_bits); (try simp only [↓IntWalk.iteOmega]); with_reducible rfl)); simp only [Act.put, List.setIfInBounds_toArray, List.set_cons_zero, List.set_cons_succ]))
  refine ord_eB rfl fun K hK => ?_
  go_wp2_with (go_at_call 28; refine (Hn.out _).mono ?_; rintro e w2 ⟨rfl, hb2⟩)
  have hG2 := grown_trans hG1 (grown_below hb2 (Nat.le_refl _))
  refine hK.out _ _ hG2 ?_
  clear hK K
  repeat (first
    | (refine ord_skipB rfl (by rfl) ?_; simp only [Act.put, List.setIfInBounds_toArray, List.set_cons_zero, List.set_cons_succ])
    | (refine ord_qE rfl (by rfl) ?_; apply Exists.intro; refine ⟨fun w' hc' => ?_, ?_⟩; (focus (go_simp; (try go_bits); (try simp only [↓IntWalk.iteOmega]); with_reducible rfl)); simp only [Act.put, List.setIfInBounds_toArray, List.set_cons_zero, List.set_cons_succ]))
  refine ord_end ?_
  go_wp2
  go_ret2
  have hB : Below w.heap.size w w2 := (((Below.refl w.heap.size w).alloc (Nat.le_refl _) _).alloc (by simp) _).trans (below_grown hG2 (by simp; omega) (fun g h => by cases h))
  refine ⟨hB, ?_⟩; first | (rw [Hr.out]; rfl) | rw [Hr.out]
set_option maxHeartbeats 1000000 in
theorem rule11_yes {x y : Ins} (w : World) (h1 : x.op = 4) (h2 : y.op = 5) (h3 : x.dst = y.path) : Calls Try.prog 36 #[.agg x.cells, .agg y.cells] w (RuleRes (rule11 x y) w) := by
  have hr : rule11 x y = some [] := by unfold rule11; rw [if_pos ⟨h1, h2, h3⟩]
  have ho := ops_yes h1 h2
  have hn := nothing_any true
  have e3 : (x.dst.toList == y.path.toList) = true := by rw [h3]; simp
  obtain ⟨xo, xp, xt, xm, xr⟩ := x
  obtain ⟨yo, yp, yt, ym, yr⟩ := y
  simp only [Ins.cells] at *
  have Hr := Lib.hid hr; clear hr
  have Ho := Lib.hid ho; clear ho
  have Hn := Lib.hid hn; clear hn
  clear h1 h2 h3
  go_enter Try.func36, Try.ntmps36
  go_upto_region 1 with (fail)
  refine wp_region_textB (none) [(0, true), (1, true), (2, false), (3, true), (4, true), (5, true), (6, true), (7, true), (8, true), (9, true), (10, false), (11, true), (12, true), (13, true), (14, true)] (by kernel_rfl) fun hG0 => ?_
  repeat (first
    | (refine ord_skipB rfl (by rfl) ?_; simp only [Act.put, List.setIfInBounds_toArray, List.set_cons_zero, List.set_cons_succ])
    | (refine ord_qE rfl (by rfl) ?_; apply Exists.intro; refine ⟨fun w' hc' => ?_, ?_⟩; (focus (go_simp; (try go_bits); (try simp only [↓IntWalk.iteOmega]); with_reducible rfl)); simp only [Act.put, List.setIfInBounds_toArray, List.set_cons_zero, List.set_cons_succ]))
  refine ord_eB rfl fun K hK => ?_
  go_wp2_with (go_at_call 25; refine (Ho.out _).mono ?_; rintro e w1 ⟨rfl, hb1⟩)
  have hG1 := grown_trans hG0 (grown_below hb1 (Nat.le_refl _))
  refine hK.out _ _ hG1 ?_
  clear hK K
  repeat (first
    | (refine ord_skipB rfl (by rfl) ?_; simp only [Act.put, List.setIfInBounds_toArray, List.set_cons_zero, List.set_cons_succ])
    | (refine ord_qE rfl (by rfl) ?_; apply Exists.intro; refine ⟨fun w' hc' => ?_, ?_⟩; (focus (go_simp; (try go_bits); (try simp only [↓IntWalk.iteOmega]); with_reducible rfl)); simp only [Act.put, List.setIfInBounds_toArray, List.set_cons_zero, List.set_cons_succ]))
  refine ord_eB rfl fun K hK => ?_
  go_wp2_with (go_at_call 28; refine (Hn.out _).mono ?_; rintro e w2 ⟨rfl, hb2⟩)
  have hG2 := grown_trans hG1 (grown_below hb2 (Nat.le_refl _))
  refine hK.out _ _ hG2 ?_
  clear hK K
  repeat (first
    | (refine ord_skipB rfl (by rfl) ?_; simp only [Act.put, List.setIfInBounds_toArray, List.set_cons_zero, List.set_cons_succ])
    | (refine ord_qE rfl (by rfl) ?_; apply Exists.intro; refine ⟨fun w' hc' => ?_, ?_⟩; (focus (go_simp; (try go_bits); (try simp only [↓IntWalk.iteOmega]); with_reducible rfl)); simp only [Act.put, List.setIfInBounds_toArray, List.set_cons_zero, List.set_cons_succ]))
  refine ord_end ?_
  go_wp2
  go_ret2
  have hB : Below w.heap.size w w2 := (((Below.refl w.heap.size w).alloc (Nat.le_refl _) _).alloc (by simp) _).trans (below_grown hG2 (by simp; omega) (fun g h => by cases h))
  refine ⟨hB, ?_⟩; first | (rw [Hr.out]; rfl) | rw [Hr.out]
theorem rule11_any (x y : Ins) (w : World) : Calls Try.prog 36 #[.agg x.cells, .agg y.cells] w (RuleRes (rule11 x y) w) := by
  by_cases h0 : x.op = 4 ∧ y.op = 5
  · by_cases h3 : x.dst = y.path
    · exact rule11_yes w h0.1 h0.2 h3
    · exact rule11_eqno w h0.1 h0.2 h3
  · exact rule11_ops w h0

end Go.Proofs.Ytanaccoelifcpaa
