/- shuntref6: Find, Big, Form, Loose: walks. -/
import Derived.Test.YthmeffpickejkaaGreatLoose
import Derived.Test.YthmeffpickejkaaGreatRef5
import Derived.Laws.Cover1
namespace Go.Proofs.YthmeffpickejkaaGreat
open Go.RowKit

/-- The place of a path from place i on. -/
def findFrom (p : ByteArray) : List Node → Int → Int
  | [], _ => -1
  | x :: t, i => if (x.path.toList == p.toList) = true then i else findFrom p t (i + 1)
def findI (l : List Node) (p : ByteArray) : Int := findFrom p l 0
theorem findFrom_lt (p : ByteArray) : ∀ (l : List Node) (i : Int), findFrom p l i = -1 ∨ (i ≤ findFrom p l i ∧ findFrom p l i < i + l.length)
  | [], i => .inl rfl
  | x :: t, i => by
    rw [findFrom]
    split
    · right; simp only [List.length_cons]; omega
    · rcases findFrom_lt p t (i + 1) with h | h
      · exact .inl h
      · right; simp only [List.length_cons]; omega
set_option maxHeartbeats 1000000 in
theorem rfind_any (t : TV) (p : ByteArray) (w : World) (h : TreeAt w t) : Calls Tryz.prog 61 #[t.val, .string p] w fun e w' => e = .returned (.int .i64 (findI t.nodes p)) ∧ Below w.heap.size w w' := by
  have hns := h.ns
  have hnl := h.nl
  have hnm := h.nm
  obtain ⟨nodes, files, NA, nn, nc, FA, fn, fc⟩ := t
  simp only at hns hnl hnm
  have HS := Lib.hid hns; clear hns
  have Hn := Lib.hid hnl; clear hnl h
  unfold TV.val
  have hB := Blk.new w 25 #[.slice NA nn nc, .slice FA fn fc]
  have b0 := hB.cell 0
  clear hB
  go_enter Tryz.func61, Tryz.ntmps61
  go_wp2
  go_loop [5] (fun i => ∃ k : Nat, k ≤ nn ∧ i = .int .i64 k ∧ findI nodes p = findFrom p (nodes.drop k) k) (fun i => nn - (intOf i).toNat)
  case atStart => exact ⟨0, Nat.zero_le _, rfl, rfl⟩
  case round =>
    obtain ⟨k, hk, rfl, hr⟩ := hrel
    by_cases hlt : k < nn
    · have hki : (k : Int) < nn := by omega
      obtain ⟨b, o, x, rfl, hbl, hx, hc⟩ := (HS.out.keep (Nat.le_refl _) fun j hj => Below.heap_alloc w (.cells #[.slice NA nn nc, .slice FA fn fc] 25) j hj).get Node.len Hn.out hlt
      have c0 := hc 0 _ rfl
      simp only [Nat.add_zero] at c0
      clear hc
      rw [drop_at' hx, findFrom] at hr
      clear hx
      cases hq : (x.path.toList == p.toList) with
      | true =>
        rw [if_pos hq] at hr
        have Hr := Lib.hid hr; clear hr
        go_wp2
        go_ret
        exact ⟨by rw [Hr.out]; rfl, (Below.refl _ _).alloc (Nat.le_refl _) _⟩
      | false =>
        rw [if_neg (by rw [hq]; simp)] at hr
        have Hr := Lib.hid hr; clear hr
        go_wp2
        go_round
        case rel => exact ⟨k + 1, by omega, by go_num, Hr.out⟩
        case measure => simp [intOf]; omega
    · obtain rfl : k = nn := by omega
      rw [List.drop_of_length_le (by rw [Hn.out]; exact Nat.le_refl _), findFrom] at hr
      have Hr := Lib.hid hr; clear hr
      go_wp2
      go_ret
      exact ⟨by rw [Hr.out]; rfl, (Below.refl _ _).alloc (Nat.le_refl _) _⟩
set_option maxHeartbeats 1000000 in
theorem rbig_any (t : TV) (w : World) (h : TreeAt w t) : Calls Tryz.prog 39 #[t.val] w fun e w' => e = .returned (.bool (boundB t)) ∧ Below w.heap.size w w' := by
  have hfs := h.fs
  have hfl := h.fl
  have hnm := h.nm
  have hfm := h.fm
  obtain ⟨nodes, files, NA, nn, nc, FA, fn, fc⟩ := t
  simp only at hfs hfl hnm hfm
  have HS := Lib.hid hfs; clear hfs
  have Hn := Lib.hid hfl; clear hfl h
  unfold TV.val
  have hB := Blk.new w 25 #[.slice NA nn nc, .slice FA fn fc]
  have b0 := hB.cell 0
  have b1 := hB.cell 1
  clear hB
  by_cases h1 : 256 < nn
  · have h1' : (256 : Int) < nn := by omega
    go_enter Tryz.func39, Tryz.ntmps39
    go_wp2
    go_ret
    exact ⟨by show Ending.returned (.bool _) = _; simp [boundB, h1], (Below.refl _ _).alloc (Nat.le_refl _) _⟩
  · have h1' : ¬ (256 : Int) < nn := by omega
    by_cases h2 : 256 < fn
    · have h2' : (256 : Int) < fn := by omega
      go_enter Tryz.func39, Tryz.ntmps39
      go_wp2
      go_ret
      exact ⟨by show Ending.returned (.bool _) = _; simp [boundB, h2], (Below.refl _ _).alloc (Nat.le_refl _) _⟩
    · have h2' : ¬ (256 : Int) < fn := by omega
      have hE : boundB ⟨nodes, files, NA, nn, nc, FA, fn, fc⟩ = anyLong files := by simp [boundB, h1, h2]
      have HE := Lib.hid hE; clear hE
      go_enter Tryz.func39, Tryz.ntmps39
      go_wp2
      go_loop [3] (fun i => ∃ k : Nat, k ≤ fn ∧ i = .int .i64 k ∧ anyLong files = anyLong (files.drop k)) (fun i => fn - (intOf i).toNat)
      case atStart => exact ⟨0, Nat.zero_le _, rfl, rfl⟩
      case round =>
        obtain ⟨k, hk, rfl, hr⟩ := hrel
        by_cases hlt : k < fn
        · have hki : (k : Int) < fn := by omega
          obtain ⟨b, o, x, rfl, hbl, hx, hc⟩ := (HS.out.keep (Nat.le_refl _) fun j hj => Below.heap_alloc w (.cells #[.slice NA nn nc, .slice FA fn fc] 25) j hj).get FC.len Hn.out hlt
          have c1 := hc 1 _ rfl
          clear hc
          have e1 : anyLong (x :: files.drop (k + 1)) = (decide (8192 < x.n) || anyLong (files.drop (k + 1))) := List.any_cons ..
          rw [drop_at' hx, e1] at hr
          clear e1
          clear hx
          by_cases hq : 8192 < x.n
          · have hqi : (8192 : Int) < x.n := by omega
            have Hr := Lib.hid (HE.out.trans (hr.trans (by rw [decide_eq_true hq]; try rfl))); clear hr
            go_wp2
            go_ret
            exact ⟨by rw [Hr.out]; rfl, (Below.refl _ _).alloc (Nat.le_refl _) _⟩
          · have hqi : ¬ (8192 : Int) < x.n := by omega
            have hr2 : anyLong files = anyLong (files.drop (k + 1)) := hr.trans (by rw [decide_eq_false hq]; try rfl)
            have Hr := Lib.hid hr2; clear hr hr2
            go_wp2
            go_round
            case rel => exact ⟨k + 1, by omega, by go_num, Hr.out⟩
            case measure => simp [intOf]; omega
        · obtain rfl : k = fn := by omega
          have Hr := Lib.hid (HE.out.trans (hr.trans (by rw [List.drop_of_length_le (by rw [Hn.out]; exact Nat.le_refl _)]; try rfl))); clear hr
          go_wp2
          go_ret
          exact ⟨by rw [Hr.out]; rfl, (Below.refl _ _).alloc (Nat.le_refl _) _⟩
theorem rmode_any (m : Int) (w : World) : Calls Tryz.prog 62 #[.int .i64 m] w fun e w' => e = .returned (.bool (okMode m)) ∧ w = w' := by
  by_cases h : 0 ≤ m
  all_goals
    go_enter Tryz.func62, Tryz.ntmps62
    go_wp2
    go_ret
    exact ⟨by show Ending.returned (.bool _) = _; simp [okMode, h] <;> omega, rfl⟩

/-- Is a node's parent not a directory that is there? -/
def upBad (l : List Node) (x : Node) : Bool :=
  !(parentB x.path).toList.isEmpty && (decide (findI l (parentB x.path) < 0) || ((l[(findI l (parentB x.path)).toNat]?).map (·.file)).getD 0 != -1)
def prevBad : Option ByteArray → ByteArray → Bool
  | none, _ => false
  | some q, p => !(Op.bytesLess q.toList p.toList)
def fileBad (x : Node) (next fn : Int) : Bool := x.mode != 0 || decide (x.file < 0) || decide (next < x.file) || decide (fn ≤ x.file)
def formRun (l : List Node) (fn : Int) : List Node → Option ByteArray → Int → Option Int
  | [], _, next => some next
  | x :: r, prev, next =>
    if (!validL x.path.data.toList || prevBad prev x.path) = true then none
    else if upBad l x = true then none
    else if x.file = -1 then (if okMode x.mode = true then formRun l fn r (some x.path) next else none)
    else if fileBad x next fn = true then none
    else formRun l fn r (some x.path) (if x.file = next then next + 1 else next)
def formB (t : TV) : Bool := match formRun t.nodes t.fn t.nodes none 0 with
  | some f => (t.files.all fun x => okMode x.mode) && decide (f = t.fn)
  | none => false
end Go.Proofs.YthmeffpickejkaaGreat
