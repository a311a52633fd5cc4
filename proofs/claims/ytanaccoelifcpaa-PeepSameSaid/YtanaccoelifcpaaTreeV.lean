/- api.Tree as Lean data; the small functions of package tree. -/
import Derived.Test.YtanaccoelifcpaaKit
import Derived.Test.YtanaccoelifcpaaPath
namespace Go.Proofs.Ytanaccoelifcpaa
open Go.RowKit

structure Node where
  path : ByteArray
  file : Int
  mode : Int
  hp : path.size ≤ 9223372036854775807
def Node.list (x : Node) : List Value := [.string x.path, .int .i64 x.file, .int .i64 x.mode]
theorem Node.len (x : Node) : x.list.length = 3 := rfl
/-- A file as its two cells. -/
structure FC where
  mode : Int
  A : Option Addr
  n : Nat
  c : Nat
def FC.list (x : FC) : List Value := [.int .i64 x.mode, .slice x.A x.n x.c]
theorem FC.len (x : FC) : x.list.length = 2 := rfl
/-- A tree's value. -/
structure TV where
  nodes : List Node
  files : List FC
  NA : Option Addr
  nn : Nat
  nc : Nat
  FA : Option Addr
  fn : Nat
  fc : Nat
def TV.val (t : TV) : Value := .agg #[.slice t.NA t.nn t.nc, .slice t.FA t.fn t.fc]
/-- What a tree's value is good for. -/
structure TreeAt (w : World) (t : TV) : Prop where
  nl : t.nodes.length = t.nn
  fl : t.files.length = t.fn
  ns : Sl w w.heap.size 3 t.NA t.nn (t.nodes.flatMap Node.list)
  fs : Sl w w.heap.size 2 t.FA t.fn (t.files.flatMap FC.list)
  nm : t.nn ≤ 9223372036854775807
  fm : t.fn ≤ 9223372036854775807
theorem TreeAt.keep {w w' : World} {t : TV} (h : TreeAt w t) (hb : Below w.heap.size w w') : TreeAt w' t :=
  { h with ns := h.ns.keep hb.size hb.block, fs := h.fs.keep hb.size hb.block }

theorem mode_any (m : Int) (w : World) : Calls Try.prog 48 #[.int .i64 m] w fun e w' => e = .returned (.bool (decide (0 ≤ m ∧ m ≤ 511))) ∧ Below w.heap.size w w' := by
  by_cases h : 0 ≤ m
  all_goals
    go_enter Try.func48, Try.ntmps48
    go_wp2
    go_ret
    exact ⟨by show Ending.returned (.bool _) = _; simp [h] <;> omega, Below.refl _ _⟩
theorem bound1_any (x : FC) (w : World) : Calls Try.prog 71 #[.agg x.list.toArray] w fun e w' => e = .returned (.bool (decide (8192 < x.n))) ∧ Below w.heap.size w w' := by
  unfold FC.list
  go_enter Try.func71, Try.ntmps71
  go_wp2
  go_ret
  exact ⟨by show Ending.returned (.bool _) = _; simp; omega, (Below.refl _ _).alloc (Nat.le_refl _) _⟩
/-- Is some file too long? -/
def anyLong (fs : List FC) : Bool := fs.any fun x => decide (8192 < x.n)
def IndexRes (fs : List FC) (w : World) (e : Ending) (w' : World) : Prop := ∃ i : Int, e = .returned (.int .i64 i) ∧ (anyLong fs = true ↔ 0 ≤ i) ∧ Below w.heap.size w w'
set_option maxHeartbeats 1000000 in
theorem index_any (fs : List FC) (A : Option Addr) (n c : Nat) (w : World) (hS : Sl w w.heap.size 2 A n (fs.flatMap FC.list)) (hn : fs.length = n) (hm : n ≤ 9223372036854775807) :
    Calls Try.prog 84 #[.slice A n c, .func (.func 71) #[] #[]] w (IndexRes fs w) := by
  have HS := Lib.hid hS; clear hS
  have Hn := Lib.hid hn; clear hn
  go_enter Try.func84, Try.ntmps84
  go_wp2
  go_loopw [8] (fun i wr => ∃ k : Nat, k ≤ n ∧ i = .int .i64 k ∧ anyLong fs = anyLong (fs.drop k) ∧ Below w.heap.size w wr) (fun i _ => n - (intOf i).toNat)
  case atStart => exact ⟨0, Nat.zero_le _, rfl, rfl, Below.refl _ _⟩
  case round =>
    obtain ⟨k, hk, rfl, ha, hb⟩ := hrel
    replace ha := Lib.hid ha
    by_cases hlt : k < n
    · have hki : (k : Int) < n := by omega
      obtain ⟨b, o, x, rfl, hbl, hx, hc⟩ := (HS.out.keep (Nat.le_refl _) hb.block).get FC.len Hn.out hlt
      have c0 := hc 0 _ rfl
      have c1 := hc 1 _ rfl
      simp only [Nat.add_zero] at c0 c1
      clear hc
      have hd := drop_at' hx
      replace hd := Lib.hid hd
      clear hx
      cases hq : decide (8192 < x.n) with
      | true =>
        have hfin : anyLong fs = true := by rw [ha.out, hd.out, anyLong, List.any_cons, hq]; rfl
        replace hfin := Lib.hid hfin
        replace hq := Lib.hid hq
        go_wp2_with (go_at_call 71; refine (bound1_any x _).mono ?_; rintro e w1 ⟨rfl, hb1⟩; rw [hq.out]; replace hb := hb.trans (hb1.mono hb.size))
        go_ret
        exact ⟨k, rfl, by simp [hfin.out], hb⟩
      | false =>
        have hnx : anyLong fs = anyLong (fs.drop (k + 1)) := by rw [ha.out, hd.out, anyLong, List.any_cons, hq]; rfl
        replace hnx := Lib.hid hnx
        replace hq := Lib.hid hq
        go_wp2_with (go_at_call 71; refine (bound1_any x _).mono ?_; rintro e w1 ⟨rfl, hb1⟩; rw [hq.out]; replace hb := hb.trans (hb1.mono hb.size))
        go_roundw
        case rel => exact ⟨k + 1, by omega, by go_num, hnx.out, hb⟩
        case measure => simp [intOf]; omega
    · obtain rfl : k = n := by omega
      go_wp2
      go_ret
      exact ⟨-1, rfl, by rw [ha.out, List.drop_of_length_le (by rw [Hn.out]; exact Nat.le_refl _)]; simp [anyLong], hb⟩
theorem contains_any (fs : List FC) (A : Option Addr) (n c : Nat) (w : World) (hS : Sl w w.heap.size 2 A n (fs.flatMap FC.list)) (hn : fs.length = n) (hm : n ≤ 9223372036854775807) :
    Calls Try.prog 70 #[.slice A n c, .func (.func 71) #[] #[]] w fun e w' => e = .returned (.bool (anyLong fs)) ∧ Below w.heap.size w w' := by
  have HS := Lib.hid hS; clear hS
  have Hn := Lib.hid hn; clear hn
  go_enter Try.func70, Try.ntmps70
  go_wp2_with (go_at_call 84; refine (index_any fs _ _ _ _ HS.out Hn.out hm).mono ?_; rintro e w1 ⟨i, rfl, hi, hb⟩; replace hi := Lib.hid hi)
  go_ret
  refine ⟨?_, hb⟩
  show Ending.returned (.bool _) = _
  have h := hi.out
  cases hq : anyLong fs
  · rw [hq] at h; simp at h; simp; omega
  · rw [hq] at h; simp at h; simp [h]
def boundB (t : TV) : Bool := decide (256 < t.nn) || decide (256 < t.fn) || anyLong t.files
set_option maxHeartbeats 1000000 in
theorem bound_any (t : TV) (w : World) (h : TreeAt w t) : Calls Try.prog 45 #[t.val] w fun e w' => e = .returned (.bool (boundB t)) ∧ Below w.heap.size w w' := by
  have hfs := h.fs
  have hfl := h.fl
  have hnm := h.nm
  have hfm := h.fm
  obtain ⟨nodes, files, NA, nn, nc, FA, fn, fc⟩ := t
  simp only at hfs hfl hnm hfm
  have HS := Lib.hid hfs; clear hfs
  have Hn := Lib.hid hfl; clear hfl h
  unfold TV.val
  have hsz : w.heap.size + 0 = w.heap.size := rfl
  by_cases h1 : 256 < nn
  · have h1' : (256 : Int) < nn := by omega
    go_enter Try.func45, Try.ntmps45
    go_wp2
    go_ret
    exact ⟨by show Ending.returned (.bool _) = _; simp [boundB, h1], (Below.refl _ _).alloc (Nat.le_refl _) _⟩
  · have h1' : ¬ (256 : Int) < nn := by omega
    by_cases h2 : 256 < fn
    · have h2' : (256 : Int) < fn := by omega
      go_enter Try.func45, Try.ntmps45
      go_wp2
      go_ret
      exact ⟨by show Ending.returned (.bool _) = _; simp [boundB, h2], (Below.refl _ _).alloc (Nat.le_refl _) _⟩
    · have h2' : ¬ (256 : Int) < fn := by omega
      go_enter Try.func45, Try.ntmps45
      go_wp2_with (go_at_call 70; refine (contains_any files _ _ _ _ (HS.out.keep (by simp) (fun k hk => Below.heap_alloc _ _ _ hk)) Hn.out (by omega)).mono ?_; rintro e w1 ⟨rfl, hb1⟩)
      go_ret
      exact ⟨by show Ending.returned (.bool _) = _; simp [boundB, h1, h2], ((Below.refl _ _).alloc (Nat.le_refl _) _).trans (hb1.mono (by simp))⟩
end Go.Proofs.Ytanaccoelifcpaa
