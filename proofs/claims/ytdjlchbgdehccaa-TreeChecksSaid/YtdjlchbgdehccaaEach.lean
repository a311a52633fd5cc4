/- path.each: the names of a path, and where each one ends; path.Kept. -/
import Derived.Test.YtdjlchbgdehccaaPath
import Derived.Lib.Bytealg
import Derived.RangeFuncFrom
import Derived.RangeFuncNested
import Derived.RangeFuncBound
import Derived.RangeFuncCalls
import Derived.RangeFuncLeaves
import Derived.Shelf.Abstract
import Derived.Shelf.RegionOpen
import Derived.WalkKit
import Derived.OwnWalkIn
import Derived.TacticsInMore
import Derived.LoopNIn
import Derived.LoopIn
namespace Go.Proofs.Ytdjlchbgdehccaa
open Go.RowKit Go.Shelf

set_option maxRecDepth 100000 in
theorem idxString_any (s : ByteArray) (w : World) : Calls Try.prog 103 #[.string s, .int .u8 47] w fun e w' => e = .returned (.int .i64 (Lib.indexByte s.data.toList 47)) ∧ w' = w := by
  go_enter Try.func103, Try.ntmps103
  go_wp2
  rw [run_callFunc_extern Try.func110 (by kernel_rfl) (by kernel_rfl) (by kernel_rfl) (e := Extern.BytealgIndexByte.indexByte) (by kernel_rfl), Lib.run_indexByteString]
  simp only [Result.andThen]
  rw [Oper.upon_value]
  go_wp2
  go_ret
  exact ⟨rfl, rfl⟩
theorem idx_any (s : ByteArray) (w : World) : Calls Try.prog 92 #[.string s, .int .u8 47] w fun e w' => e = .returned (.int .i64 (Lib.indexByte s.data.toList 47)) ∧ w' = w := by
  go_enter Try.func92, Try.ntmps92
  go_wp2_with (go_at_call 103; refine (idxString_any s _).mono ?_; rintro e w1 ⟨rfl, rfl⟩)
  go_ret
  exact ⟨rfl, rfl⟩
theorem prefix1_any (s t : ByteArray) (w : World) : Calls Try.prog 93 #[.string s, .string t] w fun e w' => e = .returned (.bool (decide (t.size ≤ s.size) && (s.extract 0 t.size).toList == t.toList)) ∧ w' = w := by
  by_cases h : t.size ≤ s.size
  all_goals
    have h' := h
    go_enter Try.func93, Try.ntmps93
    go_wp2
    go_ret
    exact ⟨by show Ending.returned (.bool _) = _; simp [h'], rfl⟩
theorem prefix_any (s t : ByteArray) (w : World) : Calls Try.prog 74 #[.string s, .string t] w fun e w' => e = .returned (.bool (decide (t.size ≤ s.size) && (s.extract 0 t.size).toList == t.toList)) ∧ w' = w := by
  go_enter Try.func74, Try.ntmps74
  go_wp2_with (go_at_call 93; refine (prefix1_any s t _).mono ?_; rintro e w1 ⟨rfl, rfl⟩)
  go_ret
  exact ⟨rfl, rfl⟩
/-- Where the name that begins at a place ends. -/
def nextTo (s : ByteArray) (a : Nat) : Nat := if Lib.indexByte (s.extract a s.size).data.toList 47 < 0 then s.size else a + (Lib.indexByte (s.extract a s.size).data.toList 47).toNat
def partsF (s : ByteArray) : Nat → Nat → List (Nat × ByteArray)
  | 0, _ => []
  | f + 1, a => if a ≤ s.size then (nextTo s a, s.extract a (nextTo s a)) :: partsF s f (nextTo s a + 1) else []
/-- The names of a path, with their ends. -/
def parts (s : ByteArray) : List (Nat × ByteArray) := partsF s (s.size + 2) 0
theorem idxB_lt : ∀ (l : List UInt8), Lib.indexByte l 47 < 0 ∨ (0 ≤ Lib.indexByte l 47 ∧ Lib.indexByte l 47 < l.length)
  | [] => .inl (by simp [Lib.indexByte])
  | b :: t => by
    have ih := idxB_lt t
    unfold Lib.indexByte
    simp only [List.length_cons]
    repeat' split
    all_goals simp_all
    all_goals omega
theorem nextTo_ge (s : ByteArray) {a : Nat} (h : a ≤ s.size) : a ≤ nextTo s a ∧ nextTo s a ≤ s.size := by
  have := idxB_lt (s.extract a s.size).data.toList
  have hl : (s.extract a s.size).data.toList.length = s.size - a := by simp
  unfold nextTo
  split <;> omega
theorem partsF_succ (s : ByteArray) {f a : Nat} (h : a ≤ s.size) : partsF s (f + 1) a = (nextTo s a, s.extract a (nextTo s a)) :: partsF s f (nextTo s a + 1) := by rw [partsF, if_pos h]

attribute [local go_sem] Oper.semAt_some
/-- What a call of an iterator's closure comes to. -/
def IterRes {α : Type} (xs : List α) (J Jx : List α → World → Prop) (e : Ending) (W' : World) : Prop := (∃ v, e = .returned v) ∧ ((∃ ys, ys = xs ∧ J ys W') ∨ (∃ pre, pre <+: xs ∧ Jx pre W'))
def encP (x : Nat × ByteArray) : Array Value := #[.int .i64 x.1, .string x.2]
set_option maxRecDepth 100000 in
set_option maxHeartbeats 2000000 in
/-- The closure of each, for every loop body that keeps what lay below n₀. -/
theorem each1_in (n : Nat) (hn : 1 ≤ n) (l Bs n₀ : Nat) (s : ByteArray) (hs : s.size ≤ 4611686018427387904) (hB : Bs < n₀) (J Jx : List (Nat × ByteArray) → World → Prop)
    (hY : ∀ pre x W, J pre W → pre.length < (parts s).length → YieldAt Fence.wide (n - 1) Try.prog l (encP x) W fun e W' => (e = .returned (.bool true) ∧ J (pre ++ [x]) W' ∧ Below n₀ W W') ∨ (e = .returned (.bool false) ∧ Jx (pre ++ [x]) W'))
    (W : World) (hc : W.cell? ⟨Bs, 0, none⟩ = some (.string s)) (h0 : J [] W) :
    CallsIn Fence.wide n Try.prog 91 #[.func (.yield l) #[] #[], .pointer (some ⟨Bs, 0, none⟩)] W (IterRes (parts s) J Jx) := by
  refine callsIn_of_wp Try.func91 rfl trivial ?_ rfl
  simp only [Try.ntmps91, List.size_toArray, List.length_cons, List.length_nil, Nat.reduceAdd, Nat.reduceSub, Array.replicate_succ, Array.replicate_zero, List.push_toArray, List.append_toArray, List.nil_append, List.cons_append]
  gi_wp2
  gi_loopw [3] (fun v wr => ∃ (a f : Nat) (pre : List (Nat × ByteArray)), a ≤ s.size + 1 ∧ s.size + 2 ≤ f + a ∧ v = .int .i64 a ∧ pre ++ partsF s f a = parts s ∧ J pre wr ∧ Below n₀ W wr) (fun v _ => s.size + 1 - (intOf v).toNat)
  case atStart => exact ⟨0, s.size + 2, [], by omega, by omega, rfl, rfl, h0, Below.refl _ _⟩
  case round =>
    obtain ⟨a, f, pre, ha, hf, rfl, hp, hJ, hb⟩ := hrel
    have hcw := (hb.cell (p := ⟨Bs, 0, none⟩) hB).trans hc
    replace hp := Lib.hid hp
    by_cases hlt : a ≤ s.size
    · have hai : (a : Int) ≤ s.size := by omega
      obtain ⟨g, rfl⟩ : ∃ g, f = g + 1 := ⟨f - 1, by omega⟩
      obtain ⟨t, ht⟩ : ∃ t, nextTo s a = t := ⟨_, rfl⟩
      have htb := nextTo_ge s hlt
      rw [ht] at htb
      obtain ⟨ht1, ht2⟩ := htb
      have hp2 := hp.out
      rw [partsF_succ s hlt, ht] at hp2
      have hlen : pre.length < (parts s).length := by rw [← hp2]; simp
      replace hp2 := Lib.hid hp2
      obtain ⟨fn, tmps, assign, body, hy, hR⟩ := hY pre (t, s.extract a t) wr hJ hlen
      simp only [encP] at hy hR
      obtain ⟨x, hx⟩ : ∃ x, Lib.indexByte (s.extract a s.size).data.toList 47 = x := ⟨_, rfl⟩
      rw [nextTo, hx] at ht
      replace hx := Lib.hid hx
      by_cases hneg : x < 0
      · rw [if_pos hneg] at ht
        subst ht
        · gi_wp2_with (first | (refine ⟨trivial, ?_⟩; gi_at_call 92; refine (callsIn_wide.2 (idx_any _ _)).mono ?_; rintro e wq ⟨rfl, rfl⟩; rw [hx.out]))
          refine hR.mono ?_
          rintro e W3 (⟨rfl, hJ3, hk3⟩ | ⟨rfl, hJx3⟩)
          · gi_wp2
            go_roundw
            case rel => exact ⟨s.size + 1, g, pre ++ [(s.size, s.extract a (s.size))], by omega, by omega, by go_num, by rw [List.append_assoc]; exact hp2.out, hJ3, hb.trans hk3⟩
            case measure => simp [intOf]; omega
          · gi_wp2
            refine bodyPost_ret (results_none rfl _ _ _) rfl ?_
            exact ⟨⟨_, rfl⟩, .inr ⟨_, ⟨partsF s g (s.size + 1), by rw [← hp2.out]; simp⟩, hJx3⟩⟩
      · rw [if_neg hneg] at ht
        obtain ⟨j, rfl⟩ := Int.eq_ofNat_of_zero_le (show 0 ≤ x by omega)
        rw [Int.toNat_natCast] at ht
        subst ht
        simp only [Int.natCast_add] at hy
        · gi_wp2_with (first | (refine ⟨trivial, ?_⟩; gi_at_call 92; refine (callsIn_wide.2 (idx_any _ _)).mono ?_; rintro e wq ⟨rfl, rfl⟩; rw [hx.out]))
          refine hR.mono ?_
          rintro e W3 (⟨rfl, hJ3, hk3⟩ | ⟨rfl, hJx3⟩)
          · gi_wp2
            go_roundw
            case rel => exact ⟨a + j + 1, g, pre ++ [(a + j, s.extract a (a + j))], by omega, by omega, by go_num, by rw [List.append_assoc]; exact hp2.out, hJ3, hb.trans hk3⟩
            case measure => simp [intOf]; omega
          · gi_wp2
            refine bodyPost_ret (results_none rfl _ _ _) rfl ?_
            exact ⟨⟨_, rfl⟩, .inr ⟨_, ⟨partsF s g (a + j + 1), by rw [← hp2.out]; simp⟩, hJx3⟩⟩
    · have hai : ¬ (a : Int) ≤ s.size := by omega
      have hfin : pre = parts s := by
        rw [← hp.out]
        cases f with
        | zero => simp [partsF]
        | succ g => rw [partsF, if_neg hlt, List.append_nil]
      gi_wp2
      go_end0
      exact ⟨⟨_, rfl⟩, .inl ⟨pre, hfin, hJ⟩⟩
set_option maxHeartbeats 1000000 in
theorem each_in (n : Nat) (s : ByteArray) (w : World) :
    CallsIn Fence.wide n Try.prog 73 #[.string s] w fun e w' => e = .returned (.func (.func 91) #[] #[.pointer (some ⟨w.heap.size, 0, none⟩)]) ∧ w' = w.alloc (.cells #[.string s] 9) := by
  refine callsIn_of_wp Try.func73 rfl trivial ?_ rfl
  simp only [Try.ntmps73, List.size_toArray, List.length_cons, List.length_nil, Nat.reduceAdd, Nat.reduceSub, Array.replicate_succ, Array.replicate_zero, List.push_toArray, List.append_toArray, List.nil_append, List.cons_append]
  gi_wp2
  go_ret
  exact ⟨rfl, rfl⟩
theorem each_stops (n : Nat) (hn : 1 ≤ n) (Bs n₀ : Nat) (s : ByteArray) (hs : s.size ≤ 4611686018427387904) (w : World) (hBs : Bs < n₀) (hn₀ : n₀ ≤ w.heap.size) (hc : w.cell? ⟨Bs, 0, none⟩ = some (.string s)) :
    SeqStopsK Fence.wide n Try.prog 91 #[.pointer (some ⟨Bs, 0, none⟩)] encP (Below n₀) (fun ys => ys = parts s) (fun pre => pre <+: parts s) (parts s).length w := fun l J Jx W hW _ _ hY h0 => by
  have hc' := (hW.cell (p := ⟨Bs, 0, none⟩) (by show Bs < _; omega)).trans hc
  exact each1_in n hn l Bs n₀ s hs hBs J Jx hY W hc' h0

theorem cell_new_l (W : World) (v : Value) (t : TypeId) : (W.alloc (.cells #[v] t)).cell? ⟨W.heap.size, 0, none⟩ = some v ∧ (W.alloc (.cells #[v] t)).frozen? ⟨W.heap.size, 0, none⟩ = false :=
  ⟨(Blk.new W t #[v]).cell 0, (Blk.new W t #[v]).frozen 0⟩
theorem cell_alloc_l {W : World} {a : Addr} {v : Value} (o : Obj) (h : W.cell? a = some v) : (W.alloc o).cell? a = some v := cell_kept h (World.grownBy_alloc W o none) (fun r e => by cases e)
theorem frozen_alloc_l {W : World} {a : Addr} {v : Value} (o : Obj) (h : W.cell? a = some v) (hf : W.frozen? a = false) : (W.alloc o).frozen? a = false := (frozen_kept h (World.grownBy_alloc W o none) (fun r e => by cases e)).trans hf
def hasTs (t : ByteArray) : Bool := decide (3 ≤ t.size) && (t.extract 0 3).toList == [46, 116, 115]
def keptB (s : ByteArray) : Bool := validL s.data.toList && (parts s).any fun x => hasTs x.2
theorem ts_any (t : ByteArray) (w : World) : Calls Try.prog 74 #[.string t, .string ⟨#[46, 116, 115]⟩] w fun e w' => e = .returned (.bool (hasTs t)) ∧ w' = w := by
  have e1 : hasTs t = (decide ((⟨#[46, 116, 115]⟩ : ByteArray).size ≤ t.size) && (t.extract 0 (⟨#[46, 116, 115]⟩ : ByteArray).size).toList == (⟨#[46, 116, 115]⟩ : ByteArray).toList) := by
    rw [ByteArray.toList_eq ⟨#[46, 116, 115]⟩]; rfl
  rw [e1]
  exact prefix_any t ⟨#[46, 116, 115]⟩ w
/-- What a call that hands back a bool and makes memory comes to. -/
def BoolRes (b : Bool) (w : World) (e : Ending) (w' : World) : Prop := e = .returned (.bool b) ∧ Below w.heap.size w w'
set_option maxRecDepth 100000 in
set_option maxHeartbeats 2000000 in
theorem kept_any (s : ByteArray) (w : World) (hs : s.size ≤ 9223372036854775807) : Calls Try.prog 45 #[.string s] w (BoolRes (keptB s) w) := by
  have c0 := cell_new_l w (.bool false) 4
  cases hv : validL s.data.toList with
  | false =>
    have hfin : keptB s = false := by simp [keptB, hv]
    rw [hfin]
    replace hv := Lib.hid hv
    go_enter Try.func45, Try.ntmps45
    go_wp2_with (go_at_call 47; refine (valid_any s _ hs).mono ?_; rintro e w1 ⟨rfl, hb1⟩; rw [hv.out]; have hc1 := (hb1.cell (p := ⟨w.heap.size, 0, none⟩) (by simp)).trans c0.1; have hf1 := (hb1.frozen (p := ⟨w.heap.size, 0, none⟩) (by simp)).trans c0.2)
    have hB := ((Below.refl w.heap.size w).alloc (Nat.le_refl _) (.cells #[.bool false] 4)).trans (hb1.mono (by simp))
    have hc5 := World.cell?_setCell_same' w1 ⟨w.heap.size, 0, none⟩ (.bool false) (by rw [hc1]; rfl)
    refine bodyPost_ret (v := .bool false) (by simp [results, Try.f45, go_sem, hc5]) rfl ⟨rfl, hB.setCell (p := ⟨w.heap.size, 0, none⟩) (Nat.le_refl _) _⟩
  | true =>
    have hs2 : s.size ≤ 4611686018427387904 := by have := valid_len hv; simp at this; omega
    have hkb : keptB s = (parts s).any fun x => hasTs x.2 := by simp [keptB, hv]
    replace hkb := Lib.hid hkb
    replace hv := Lib.hid hv
    refine (callsIn_wide (n := 5)).1 ?_
    refine callsIn_of_wp_marks Try.func45 rfl trivial ?_ rfl
    simp only [Try.ntmps45, List.size_toArray, List.length_cons, List.length_nil, Nat.reduceAdd, Nat.reduceSub, Array.replicate_succ, Array.replicate_zero, List.push_toArray, List.append_toArray, List.nil_append, List.cons_append]
    gi_wp2_with (first | (refine ⟨trivial, ?_⟩; gi_at_call 47; refine (callsIn_wide.2 (valid_any s _ hs)).mono ?_; rintro e w1 ⟨rfl, hb1⟩; rw [hv.out]; have hc1 := (hb1.cell (p := ⟨w.heap.size, 0, none⟩) (by simp)).trans c0.1; have hf1 := (hb1.frozen (p := ⟨w.heap.size, 0, none⟩) (by simp)).trans c0.2; have hs1 := hb1.size; simp only [World.size_alloc] at hs1) | (refine ⟨trivial, ?_⟩; gi_at_call 73; refine (each_in _ _ _).mono ?_; rintro e w' ⟨rfl, rfl⟩))
    obtain ⟨b0, hb0⟩ : ∃ b, b = w1.heap.size := ⟨_, rfl⟩
    have cs := cell_new_l w1 (.string s) 9
    have hB0 : Below w.heap.size w (w1.alloc (.cells #[.string s] 9)) := (((Below.refl w.heap.size w).alloc (Nat.le_refl _) (.cells #[.bool false] 4)).trans (hb1.mono (by simp))).alloc (by omega) _
    refine wpIn_rangeFunc_ownF rfl (by omega) (gf := 91) (lb := #[.pointer (some ⟨w1.heap.size, 0, none⟩)]) rfl trivial (enters_of Try.func91 (by kernel_rfl) rfl)
      (each_stops 4 (by omega) w1.heap.size (w1.heap.size + 1) s hs2 _ (by omega) (by simp) cs.1) belowK_t (belowK_b (by simp)) (Below.refl _ _) (fun _ => rfl)
      (fun pre W => ((∀ y ∈ pre, hasTs y.2 = false) ∧ W.cell? ⟨w.heap.size, 0, none⟩ = some (.bool false) ∧ W.frozen? ⟨w.heap.size, 0, none⟩ = false) ∧ Below w.heap.size w W)
      (fun c pre W => (c = .ret ∧ (∃ y ∈ pre, hasTs y.2 = true) ∧ W.cell? ⟨w.heap.size, 0, none⟩ = some (.bool true)) ∧ Below w.heap.size w W)
      (OwnFrom.and (Own.from (fun s A B row hs hg hr => ⟨hs.1, cell_kept hs.2.1 hg hr, (frozen_kept hs.2.1 hg hr).trans hs.2.2⟩) _) (ownFrom_below (Nat.le_refl _) (by simp; omega)))
      (fun c => OwnFrom.and (Own.from (fun s A B row hs hg hr => ⟨hs.1, hs.2.1, cell_kept hs.2.2 hg hr⟩) _) (ownFrom_below (Nat.le_refl _) (by simp; omega)))
      ⟨⟨by simp, cell_alloc_l _ hc1, frozen_alloc_l _ hc1 hf1⟩, hB0⟩
      (fun x => { tmps := #[.string s, undef, .pointer (some ⟨w.heap.size, 0, none⟩), undef, .string x.2, .string s, .bool true, .bool false, .string s, .func (.func 91) #[] #[.pointer (some ⟨w1.heap.size, 0, none⟩)], .int .i64 x.1, .string x.2, undef, undef], defers := [] }) ?assign ?body ?done ?stop
    case assign =>
      intro l x W K hK
      simp only [encP]
      gi_wp2
      exact hK
    case body =>
      rintro l pre x W ⟨⟨hp, hc, hf⟩, hB⟩ _
      cases hq : hasTs x.2 with
      | true =>
        have Hq := Lib.hid hq; clear hq
        gi_wp2_with (refine ⟨trivial, ?_⟩; gi_at_call 74; refine (CallsIn.inRound l (callsIn_wide.2 (ts_any x.2 _))).mono ?_; rintro e wq ⟨rfl, rfl⟩; rw [Hq.out])
        exact ⟨KeepsOthers.setCell _ _ _, ⟨rfl, ⟨x, List.mem_append.2 (.inr (by simp)), Hq.out⟩, World.cell?_setCell_same' _ _ _ (by rw [hc]; rfl)⟩, hB.setCell (p := ⟨w.heap.size, 0, none⟩) (Nat.le_refl _) _⟩
      | false =>
        have Hq := Lib.hid hq; clear hq
        have Hp := Lib.hid hp; clear hp
        gi_wp2_with (refine ⟨trivial, ?_⟩; gi_at_call 74; refine (CallsIn.inRound l (callsIn_wide.2 (ts_any x.2 _))).mono ?_; rintro e wq ⟨rfl, rfl⟩; rw [Hq.out])
        exact ⟨KeepsOthers.refl _, Below.refl _ _, ⟨fun y hy => (List.mem_append.1 hy).elim (Hp.out y) (fun e => by rw [List.mem_singleton.1 e]; exact Hq.out), hc, hf⟩, hB⟩
    case done =>
      rintro D ys W hD rfl ⟨⟨hne, hcr, hfr⟩, hB⟩ hK
      have Hne := Lib.hid hne; clear hne
      gi_wp2
      have hK' := (KeepsOthers.setCell W ⟨w.heap.size, 0, none⟩ (.bool false)).same D _ hK rfl
      refine ⟨by simp, .inl ⟨_, _, rfl, run_takeDeferred hK', ?_⟩⟩
      have hc5 := cell_kept (World.cell?_setCell_same' W ⟨w.heap.size, 0, none⟩ (.bool false) (by rw [hcr]; rfl)) (grownBy_putObj' _ D (.deferred none)) (fun r e => by cases e; exact ⟨_, hK', rfl⟩)
      refine ⟨.bool false, ?_, by rw [hkb.out, List.any_eq_false.2 (fun y hy => by rw [Hne.out y hy]; simp)], (hB.setCell (p := ⟨w.heap.size, 0, none⟩) (Nat.le_refl _) _).trans (belowK_b (w := w) (Nat.le_refl _) _ D _ _ (by simp at hD; omega) hK' rfl rfl)⟩
      simp [results, Try.f45, go_sem, hc5]
    case stop =>
      rintro D c pre W hD hpre ⟨⟨rfl, hin, hcr⟩, hB⟩ hK
      have Hin := Lib.hid hin; clear hin
      have Hpre := Lib.hid hpre; clear hpre
      gi_wp2
      refine ⟨by simp, .inl ⟨_, _, rfl, run_takeDeferred hK, ?_⟩⟩
      have hc5 := cell_kept hcr (grownBy_putObj' _ D (.deferred none)) (fun r e => by cases e; exact ⟨_, hK, rfl⟩)
      refine ⟨.bool true, ?_, by rw [hkb.out, List.any_eq_true.2 (by obtain ⟨y, hy, hy2⟩ := Hin.out; exact ⟨y, Hpre.out.subset hy, hy2⟩)], hB.trans (belowK_b (w := w) (Nat.le_refl _) W D _ _ (by simp at hD; omega) hK rfl rfl)⟩
      simp [results, Try.f45, go_sem, hc5]
end Go.Proofs.Ytdjlchbgdehccaa
