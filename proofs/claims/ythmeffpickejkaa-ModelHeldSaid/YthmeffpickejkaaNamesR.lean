/- shuntref6.Names: the paths that nodes pick. -/
import Derived.Test.YthmeffpickejkaaRef6
namespace Go.Proofs.Ythmeffpickejkaa
open Go.RowKit

/-- The paths of the nodes that f picks. -/
def picks (f : Node → Bool) (l : List Node) : List ByteArray := (l.filter f).map (·.path)
theorem picks_yes {f : Node → Bool} {x : Node} (h : f x = true) (t : List Node) : picks f (x :: t) = x.path :: picks f t := by simp [picks, h]
theorem picks_no {f : Node → Bool} {x : Node} (h : f x = false) (t : List Node) : picks f (x :: t) = picks f t := by simp [picks, h]
theorem picks_append (f : Node → Bool) (l m : List Node) : picks f (l ++ m) = picks f l ++ picks f m := by simp [picks]
theorem picks_len (f : Node → Bool) (l : List Node) : (picks f l).length ≤ l.length := by rw [picks, List.length_map]; exact List.length_filter_le _ _
def namesF (file : Int) (y : Node) : Bool := (y.file == file) && decide (0 ≤ file)
def kidsF (p : ByteArray) (y : Node) : Bool := (parentB y.path).toList == p.toList
/-- A list of texts that was made. -/
def TextsRes (w : World) (ps : List ByteArray) (e : Ending) (w' : World) : Prop :=
  ∃ (A : Option Addr) (n c : Nat), e = .returned (.slice A n c) ∧ ps.length = n ∧ Sl w' w'.heap.size 1 A n (ps.flatMap strOf) ∧ Below w.heap.size w w'
def TextsAt (f : Node → Bool) (nodes : List Node) (base : Nat) (w wr : World) (tv : Array Value) (v : Value) (k : Nat) : Prop :=
  ∃ (A : Option Addr) (n c : Nat) (ps : List ByteArray), v = .slice A n c ∧ ps.length = n ∧ n ≤ k ∧ wr.ownsRow base 9 1 (.slice A n c) n (ps.flatMap strOf) ∧ picks f nodes = ps ++ picks f (nodes.drop k) ∧ Blk wr w.heap.size 25 tv ∧ Below w.heap.size w wr
theorem ne_own1 {w : World} {base e sz n c r : Nat} {A : Option Addr} {L : List Value} (h : w.ownsRow base e sz (.slice A n c) n L) (hr : r < base) : some r ≠ blkOf A := fun e => by have := own_blk1 h r e.symm; omega
theorem own_keep1 {w w' : World} {base e sz n c B : Nat} {A : Option Addr} {L : List Value} (h : w.ownsRow base e sz (.slice A n c) n L) (hb : Below B w w') (hB : w.heap.size ≤ B) : w'.ownsRow base e sz (.slice A n c) n L :=
  own_keep h fun g o e => by
    subst e
    rcases h.2 with ⟨h', _⟩ | ⟨g', cap, cur, hv, hg, hh, _⟩
    · cases h'
    · injection hv with hA
      injection hA with hA
      injection hA with hA _ _
      subst hA
      exact hb.block g (Nat.lt_of_lt_of_le (Array.getElem?_eq_some_iff.1 hh).1 hB)

set_option maxRecDepth 100000 in
set_option maxHeartbeats 2000000 in
theorem rnames6_any (t : TV) (file : Int) (w : World) (h : TreeAt w t) (hbd : t.nn ≤ 1000000) : Calls Try.prog 31 #[t.val, .int .i64 file] w (TextsRes w (picks (namesF file) t.nodes)) := by
  have hns := h.ns
  have hnl := h.nl
  obtain ⟨nodes, files, NA, nn, nc, FA, fn, fc⟩ := t
  simp only at hns hnl hbd
  have HS := Lib.hid hns; clear hns
  have Hn := Lib.hid hnl; clear hnl h
  unfold TV.val
  have hB0 := Blk.new w 25 #[.slice NA nn nc, .slice FA fn fc]
  have hb0 := (Below.refl w.heap.size w).alloc (Nat.le_refl _) (.cells #[.slice NA nn nc, .slice FA fn fc] 25)
  obtain ⟨base, hbase⟩ : ∃ base, base = w.heap.size + 1 := ⟨_, rfl⟩
  have hbl : w.heap.size < base := by omega
  have hbl2 : base ≤ (w.alloc (.cells #[.slice NA nn nc, .slice FA fn fc] 25)).heap.size := by simp; omega
  clear hbase
  go_enter Try.func31, Try.ntmps31
  go_wp2
  go_loopw [5, 6] (fun v i wr => ∃ k : Nat, k ≤ nn ∧ i = .int .i64 k ∧ base ≤ wr.heap.size ∧ TextsAt (namesF file) nodes base w wr #[.slice NA nn nc, .slice FA fn fc] v k) (fun _ i _ => nn - (intOf i).toNat)
  case atStart => exact ⟨0, Nat.zero_le _, rfl, hbl2, none, 0, 0, [], rfl, rfl, Nat.le_refl _, World.ownsRow_nil _ _ _ _, rfl, hB0, hb0⟩
  case round =>
    clear hB0 hb0 hbl2
    obtain ⟨k, hk, rfl, hbs, A, n, c, ps, rfl, hn, hnk, ho, hp, hB, hb⟩ := hrel
    have Ho := Lib.hid ho; clear ho
    have HN := Lib.hid hn; clear hn
    have b0 := hB.cell 0
    by_cases hlt : k < nn
    · have hki : (k : Int) < nn := by omega
      obtain ⟨xb, xo, x, rfl, hxb, hx, hc⟩ := (HS.out.keep (Nat.le_refl _) hb.block).get Node.len Hn.out hlt
      have c0 := hc 0 _ rfl
      have c1 := hc 1 _ rfl
      simp only [Nat.add_zero] at c0 c1
      clear hc
      rw [drop_at' hx] at hp
      clear hx

      cases hq : (namesF file) x with
      | true =>
        rw [picks_yes hq] at hp
        have HP := Lib.hid (show picks (namesF file) nodes = (ps ++ [x.path]) ++ picks (namesF file) (nodes.drop (k + 1)) by rw [hp]; simp)
        have HS2 := Lib.hid (strs_snoc ps x.path)
        clear hp
        have hq2 : (x.file == file) = true ∧ decide (0 ≤ file) = true := by rw [namesF, Bool.and_eq_true] at hq; exact hq
        obtain ⟨q1, q2⟩ := hq2
        have q3 := of_decide_eq_true q2
        clear q2
        have HQ := Lib.hid hq; clear hq
        go_wp2_with (at_builtin; refine wpList_append_one rfl _ _ _ rfl Try.strT rfl Ho.out #[.string x.path] rfl (by simp) rfl (str_one _) (by unfold maxLen; omega) (by omega) hbs ?_; intro g1 c1 w4 ho4 hg4 hat4)
        go_roundw
        case rel => exact ⟨k + 1, by omega, by go_num, by have := hg4.size; omega, some ⟨g1, 0, none⟩, n + 1, c1, ps ++ [x.path], rfl, by rw [List.length_append, HN.out]; rfl, by omega, by rw [HS2.out]; exact ho4, HP.out, hB.grown hg4 (ne_own1 Ho.out hbl), hb.trans (below_grown hg4 hb.size (fun g e => Nat.le_trans (Nat.le_of_lt hbl) (own_blk1 Ho.out g e)))⟩
        case measure => simp [intOf]; omega
      | false =>
        rw [picks_no hq] at hp
        have HP := Lib.hid hp; clear hp
        have hq2 : (x.file == file) = false ∨ ((x.file == file) = true ∧ ¬ 0 ≤ file) := by
          rw [namesF] at hq
          cases h1 : (x.file == file)
          · exact .inl rfl
          · rw [h1, Bool.true_and] at hq; exact .inr ⟨rfl, of_decide_eq_false hq⟩
        have HQ := Lib.hid hq; clear hq
        rcases hq2 with q1 | ⟨q1, q2⟩
        all_goals
          go_wp2
          go_roundw
          case rel => exact ⟨k + 1, by omega, by go_num, hbs, A, n, c, ps, rfl, HN.out, by omega, Ho.out, HP.out, hB, hb⟩
          case measure => simp [intOf]; omega
    · obtain rfl : k = nn := by omega
      have hki : ¬ (k : Int) < k := by omega
      rw [List.drop_of_length_le (by rw [Hn.out]; exact Nat.le_refl _)] at hp
      have HP := Lib.hid (show picks (namesF file) nodes = ps by rw [hp]; simp [picks])
      clear hp
      go_wp2
      go_ret
      exact ⟨A, n, c, rfl, by rw [HP.out]; exact HN.out, by rw [HP.out]; exact Sl.of_own Ho.out, hb⟩
end Go.Proofs.Ythmeffpickejkaa
