/- pack.checkIns and shuntref19.one: both are nought just where the instruction can stand. Written by gen/one.py. -/
import Derived.Test.YtgeiegjpnnbloaaDoorScr
import Derived.Test.YtgeiegjpnnbloaaDoorPath
import Derived.Test.YtgeiegjpnnbloaaDoorRef5
namespace Go.Proofs.YtgeiegjpnnbloaaDoor
open Go.ChangeShapes Go.WideShapes Go.ChangeAt Go.ChangeMaps Go.RowKit Go.Deep

def modeB (op : Int) : Bool := op == 1 || op == 8 || op == 6 || op == 7
def toB (op : Int) : Bool := op == 3 || op == 4 || op == 7
def okIns (x : Ins) : Prop := (1 ≤ x.op ∧ x.op ≤ 9) ∧ (modeB x.op = true → 0 ≤ x.mode ∧ x.mode ≤ 511) ∧ (x.op ≠ 9 → validL x.path.data.toList = true) ∧ (toB x.op = true → validL x.dst.data.toList = true) ∧
  (x.op = 9 → x.path = ⟨#[]⟩) ∧ (toB x.op = false → x.dst = ⟨#[]⟩) ∧ (modeB x.op = false → x.mode = 0) ∧ (x.op ≠ 6 → x.ref = 0) ∧ (x.op = 6 → 0 ≤ x.ref ∧ x.ref ≤ 65534)
def ChkR (x : Ins) (w : World) (e : Ending) (w' : World) : Prop := ∃ E : Int, e = .returned (.int .i64 E) ∧ (E = 0 ↔ okIns x) ∧ Below w.heap.size w w'
theorem empty_list : (⟨#[]⟩ : ByteArray).toList = [] := by rw [ByteArray.toList_eq]
theorem bytes_ne {p : ByteArray} (h : p ≠ ⟨#[]⟩) : (p.toList == ([] : List UInt8)) = false := by
  rw [beq_eq_false_iff_ne]
  intro e
  exact h (p18_toList_inj (e.trans empty_list.symm))

theorem fields_1 (w : World) : Calls Tryd.prog 42 #[.int .i64 1] w fun e w' => e = .returned (.tuple #[.bool true, .bool false, .bool true, .bool false, .bool true]) ∧ w' = w := by
  go_enter Tryd.func42, Tryd.ntmps42
  go_wp2
  exact bodyPost_ret (by simp [results, Tryd.f42]) rfl ⟨rfl, rfl⟩
theorem fields_2 (w : World) : Calls Tryd.prog 42 #[.int .i64 2] w fun e w' => e = .returned (.tuple #[.bool true, .bool false, .bool false, .bool false, .bool true]) ∧ w' = w := by
  go_enter Tryd.func42, Tryd.ntmps42
  go_wp2
  exact bodyPost_ret (by simp [results, Tryd.f42]) rfl ⟨rfl, rfl⟩
theorem fields_3 (w : World) : Calls Tryd.prog 42 #[.int .i64 3] w fun e w' => e = .returned (.tuple #[.bool true, .bool true, .bool false, .bool false, .bool true]) ∧ w' = w := by
  go_enter Tryd.func42, Tryd.ntmps42
  go_wp2
  exact bodyPost_ret (by simp [results, Tryd.f42]) rfl ⟨rfl, rfl⟩
theorem fields_4 (w : World) : Calls Tryd.prog 42 #[.int .i64 4] w fun e w' => e = .returned (.tuple #[.bool true, .bool true, .bool false, .bool false, .bool true]) ∧ w' = w := by
  go_enter Tryd.func42, Tryd.ntmps42
  go_wp2
  exact bodyPost_ret (by simp [results, Tryd.f42]) rfl ⟨rfl, rfl⟩
theorem fields_5 (w : World) : Calls Tryd.prog 42 #[.int .i64 5] w fun e w' => e = .returned (.tuple #[.bool true, .bool false, .bool false, .bool false, .bool true]) ∧ w' = w := by
  go_enter Tryd.func42, Tryd.ntmps42
  go_wp2
  exact bodyPost_ret (by simp [results, Tryd.f42]) rfl ⟨rfl, rfl⟩
theorem fields_6 (w : World) : Calls Tryd.prog 42 #[.int .i64 6] w fun e w' => e = .returned (.tuple #[.bool true, .bool false, .bool true, .bool true, .bool true]) ∧ w' = w := by
  go_enter Tryd.func42, Tryd.ntmps42
  go_wp2
  exact bodyPost_ret (by simp [results, Tryd.f42]) rfl ⟨rfl, rfl⟩
theorem fields_7 (w : World) : Calls Tryd.prog 42 #[.int .i64 7] w fun e w' => e = .returned (.tuple #[.bool true, .bool true, .bool true, .bool false, .bool true]) ∧ w' = w := by
  go_enter Tryd.func42, Tryd.ntmps42
  go_wp2
  exact bodyPost_ret (by simp [results, Tryd.f42]) rfl ⟨rfl, rfl⟩
theorem fields_8 (w : World) : Calls Tryd.prog 42 #[.int .i64 8] w fun e w' => e = .returned (.tuple #[.bool true, .bool false, .bool true, .bool false, .bool true]) ∧ w' = w := by
  go_enter Tryd.func42, Tryd.ntmps42
  go_wp2
  exact bodyPost_ret (by simp [results, Tryd.f42]) rfl ⟨rfl, rfl⟩
theorem fields_no (op : Int) (h : op < 1 ∨ 9 < op) (w : World) : Calls Tryd.prog 42 #[.int .i64 op] w fun e w' => e = .returned (.tuple #[.bool false, .bool false, .bool false, .bool false, .bool false]) ∧ w' = w := by
  have h1 : op ≠ 1 := by omega
  have h2 : op ≠ 2 := by omega
  have h3 : op ≠ 3 := by omega
  have h4 : op ≠ 4 := by omega
  have h5 : op ≠ 5 := by omega
  have h6 : op ≠ 6 := by omega
  have h7 : op ≠ 7 := by omega
  have h8 : op ≠ 8 := by omega
  have h9 : op ≠ 9 := by omega
  clear h
  go_enter Tryd.func42, Tryd.ntmps42
  go_wp2
  exact bodyPost_ret (by simp [results, Tryd.f42]) rfl ⟨rfl, rfl⟩
set_option maxRecDepth 100000 in
set_option maxHeartbeats 4000000 in
theorem chk_1 (p d : ByteArray) (md rf : Int) (hp : p.size ≤ 1000) (hd : d.size ≤ 1000) (w : World) : Calls Tryd.prog 35 #[.agg (Ins.cells ⟨1, p, d, md, rf⟩)] w (ChkR ⟨1, p, d, md, rf⟩ w) := by
  unfold Ins.cells
  have hB := Blk.new w 42 #[.int .i64 1, .string p, .string d, .int .i64 md, .int .i64 rf]
  have b0 := hB.cell 0; have b1 := hB.cell 1; have b2 := hB.cell 2; have b3 := hB.cell 3; have b4 := hB.cell 4
  have hl := hB.lt
  have hb := (Below.refl w.heap.size w).alloc (Nat.le_refl _) (.cells #[.int .i64 1, .string p, .string d, .int .i64 md, .int .i64 rf] 42)
  have HVp := Lib.hid (fun W => valid_any p W (by omega))
  have HVd := Lib.hid (fun W => valid_any d W (by omega))
  clear hp hd
  obtain ⟨P, hP⟩ : ∃ b, validL p.data.toList = b := ⟨_, rfl⟩
  obtain ⟨D, hD⟩ : ∃ b, validL d.data.toList = b := ⟨_, rfl⟩
  rw [hP] at HVp
  rw [hD] at HVd
  have HP := Lib.hid hP; have HD := Lib.hid hD
  clear hP hD
  go_enter Tryd.func35, Tryd.ntmps35
  by_cases m1 : md < 0
  · have m2 : ¬ 511 < md := by omega
    go_wp2_with (first | (go_at_call 42; refine (fields_1 _).mono ?_; rintro e wf ⟨rfl, hw⟩; rw [hw]; clear hw) | (go_at_call 43; with_reducible refine (HVp.out _).mono ?_; rintro e wp ⟨rfl, hbp⟩; replace hb := hb.trans (hbp.mono hb.size); replace hB := hB.below hbp hl; replace hl := hB.lt; replace b0 := hB.cell 0; replace b1 := hB.cell 1; replace b2 := hB.cell 2; replace b3 := hB.cell 3; replace b4 := hB.cell 4) | (go_at_call 43; with_reducible refine (HVd.out _).mono ?_; rintro e wd ⟨rfl, hbd⟩; replace hb := hb.trans (hbd.mono hb.size); replace hB := hB.below hbd hl; replace hl := hB.lt; replace b0 := hB.cell 0; replace b1 := hB.cell 1; replace b2 := hB.cell 2; replace b3 := hB.cell 3; replace b4 := hB.cell 4))
    go_ret
    exact ⟨_, rfl, ⟨fun h => absurd h (by decide), fun h => by obtain ⟨_, a2, a3, a4, a5, a6, a7, a8, a9⟩ := h; have h2 := a2 rfl; simp only at h2; omega⟩, hb⟩
  by_cases m2 : 511 < md
  ·
    go_wp2_with (first | (go_at_call 42; refine (fields_1 _).mono ?_; rintro e wf ⟨rfl, hw⟩; rw [hw]; clear hw) | (go_at_call 43; with_reducible refine (HVp.out _).mono ?_; rintro e wp ⟨rfl, hbp⟩; replace hb := hb.trans (hbp.mono hb.size); replace hB := hB.below hbp hl; replace hl := hB.lt; replace b0 := hB.cell 0; replace b1 := hB.cell 1; replace b2 := hB.cell 2; replace b3 := hB.cell 3; replace b4 := hB.cell 4) | (go_at_call 43; with_reducible refine (HVd.out _).mono ?_; rintro e wd ⟨rfl, hbd⟩; replace hb := hb.trans (hbd.mono hb.size); replace hB := hB.below hbd hl; replace hl := hB.lt; replace b0 := hB.cell 0; replace b1 := hB.cell 1; replace b2 := hB.cell 2; replace b3 := hB.cell 3; replace b4 := hB.cell 4))
    go_ret
    exact ⟨_, rfl, ⟨fun h => absurd h (by decide), fun h => by obtain ⟨_, a2, a3, a4, a5, a6, a7, a8, a9⟩ := h; have h2 := a2 rfl; simp only at h2; omega⟩, hb⟩
  cases P with
  | false =>
    have vp := HP.out
    go_wp2_with (first | (go_at_call 42; refine (fields_1 _).mono ?_; rintro e wf ⟨rfl, hw⟩; rw [hw]; clear hw) | (go_at_call 43; with_reducible refine (HVp.out _).mono ?_; rintro e wp ⟨rfl, hbp⟩; replace hb := hb.trans (hbp.mono hb.size); replace hB := hB.below hbp hl; replace hl := hB.lt; replace b0 := hB.cell 0; replace b1 := hB.cell 1; replace b2 := hB.cell 2; replace b3 := hB.cell 3; replace b4 := hB.cell 4) | (go_at_call 43; with_reducible refine (HVd.out _).mono ?_; rintro e wd ⟨rfl, hbd⟩; replace hb := hb.trans (hbd.mono hb.size); replace hB := hB.below hbd hl; replace hl := hB.lt; replace b0 := hB.cell 0; replace b1 := hB.cell 1; replace b2 := hB.cell 2; replace b3 := hB.cell 3; replace b4 := hB.cell 4))
    go_ret
    exact ⟨_, rfl, ⟨fun h => absurd h (by decide), fun h => by obtain ⟨_, a2, a3, a4, a5, a6, a7, a8, a9⟩ := h; have h2 : validL p.data.toList = true := a3 (show (1 : Int) ≠ 9 by decide); rw [vp] at h2; cases h2⟩, hb⟩
  | true =>
    have vp := HP.out
    by_cases de : d = ⟨#[]⟩
    rotate_left
    · have den := bytes_ne de
      go_wp2_with (first | (go_at_call 42; refine (fields_1 _).mono ?_; rintro e wf ⟨rfl, hw⟩; rw [hw]; clear hw) | (go_at_call 43; with_reducible refine (HVp.out _).mono ?_; rintro e wp ⟨rfl, hbp⟩; replace hb := hb.trans (hbp.mono hb.size); replace hB := hB.below hbp hl; replace hl := hB.lt; replace b0 := hB.cell 0; replace b1 := hB.cell 1; replace b2 := hB.cell 2; replace b3 := hB.cell 3; replace b4 := hB.cell 4) | (go_at_call 43; with_reducible refine (HVd.out _).mono ?_; rintro e wd ⟨rfl, hbd⟩; replace hb := hb.trans (hbd.mono hb.size); replace hB := hB.below hbd hl; replace hl := hB.lt; replace b0 := hB.cell 0; replace b1 := hB.cell 1; replace b2 := hB.cell 2; replace b3 := hB.cell 3; replace b4 := hB.cell 4))
      go_ret
      exact ⟨_, rfl, ⟨fun h => absurd h (by decide), fun h => by obtain ⟨_, a2, a3, a4, a5, a6, a7, a8, a9⟩ := h; exact absurd (a6 rfl) de⟩, hb⟩
    subst de
    by_cases r0 : rf = 0
    rotate_left
    ·
      go_wp2_with (first | (go_at_call 42; refine (fields_1 _).mono ?_; rintro e wf ⟨rfl, hw⟩; rw [hw]; clear hw) | (go_at_call 43; with_reducible refine (HVp.out _).mono ?_; rintro e wp ⟨rfl, hbp⟩; replace hb := hb.trans (hbp.mono hb.size); replace hB := hB.below hbp hl; replace hl := hB.lt; replace b0 := hB.cell 0; replace b1 := hB.cell 1; replace b2 := hB.cell 2; replace b3 := hB.cell 3; replace b4 := hB.cell 4) | (go_at_call 43; with_reducible refine (HVd.out _).mono ?_; rintro e wd ⟨rfl, hbd⟩; replace hb := hb.trans (hbd.mono hb.size); replace hB := hB.below hbd hl; replace hl := hB.lt; replace b0 := hB.cell 0; replace b1 := hB.cell 1; replace b2 := hB.cell 2; replace b3 := hB.cell 3; replace b4 := hB.cell 4))
      go_ret
      exact ⟨_, rfl, ⟨fun h => absurd h (by decide), fun h => by obtain ⟨_, a2, a3, a4, a5, a6, a7, a8, a9⟩ := h; have h2 : rf = 0 := a8 (show (1 : Int) ≠ 6 by decide); omega⟩, hb⟩
    subst r0
    go_wp2_with (first | (go_at_call 42; refine (fields_1 _).mono ?_; rintro e wf ⟨rfl, hw⟩; rw [hw]; clear hw) | (go_at_call 43; with_reducible refine (HVp.out _).mono ?_; rintro e wp ⟨rfl, hbp⟩; replace hb := hb.trans (hbp.mono hb.size); replace hB := hB.below hbp hl; replace hl := hB.lt; replace b0 := hB.cell 0; replace b1 := hB.cell 1; replace b2 := hB.cell 2; replace b3 := hB.cell 3; replace b4 := hB.cell 4) | (go_at_call 43; with_reducible refine (HVd.out _).mono ?_; rintro e wd ⟨rfl, hbd⟩; replace hb := hb.trans (hbd.mono hb.size); replace hB := hB.below hbd hl; replace hl := hB.lt; replace b0 := hB.cell 0; replace b1 := hB.cell 1; replace b2 := hB.cell 2; replace b3 := hB.cell 3; replace b4 := hB.cell 4))
    go_ret
    exact ⟨_, rfl, ⟨fun _ => ⟨(show (1 : Int) ≤ 1 ∧ (1 : Int) ≤ 9 by decide), fun _ => (by omega : 0 ≤ md ∧ md ≤ 511), fun _ => vp, fun h => absurd h (show ¬ toB 1 = true by decide), fun h => absurd h (show ¬ (1 : Int) = 9 by decide), fun _ => rfl, fun h => absurd h (show ¬ modeB 1 = false by decide), fun _ => rfl, fun h => absurd h (show ¬ (1 : Int) = 6 by decide)⟩, fun _ => rfl⟩, hb⟩
set_option maxRecDepth 100000 in
set_option maxHeartbeats 4000000 in
theorem chk_2 (p d : ByteArray) (md rf : Int) (hp : p.size ≤ 1000) (hd : d.size ≤ 1000) (w : World) : Calls Tryd.prog 35 #[.agg (Ins.cells ⟨2, p, d, md, rf⟩)] w (ChkR ⟨2, p, d, md, rf⟩ w) := by
  unfold Ins.cells
  have hB := Blk.new w 42 #[.int .i64 2, .string p, .string d, .int .i64 md, .int .i64 rf]
  have b0 := hB.cell 0; have b1 := hB.cell 1; have b2 := hB.cell 2; have b3 := hB.cell 3; have b4 := hB.cell 4
  have hl := hB.lt
  have hb := (Below.refl w.heap.size w).alloc (Nat.le_refl _) (.cells #[.int .i64 2, .string p, .string d, .int .i64 md, .int .i64 rf] 42)
  have HVp := Lib.hid (fun W => valid_any p W (by omega))
  have HVd := Lib.hid (fun W => valid_any d W (by omega))
  clear hp hd
  obtain ⟨P, hP⟩ : ∃ b, validL p.data.toList = b := ⟨_, rfl⟩
  obtain ⟨D, hD⟩ : ∃ b, validL d.data.toList = b := ⟨_, rfl⟩
  rw [hP] at HVp
  rw [hD] at HVd
  have HP := Lib.hid hP; have HD := Lib.hid hD
  clear hP hD
  go_enter Tryd.func35, Tryd.ntmps35
  cases P with
  | false =>
    have vp := HP.out
    go_wp2_with (first | (go_at_call 42; refine (fields_2 _).mono ?_; rintro e wf ⟨rfl, hw⟩; rw [hw]; clear hw) | (go_at_call 43; with_reducible refine (HVp.out _).mono ?_; rintro e wp ⟨rfl, hbp⟩; replace hb := hb.trans (hbp.mono hb.size); replace hB := hB.below hbp hl; replace hl := hB.lt; replace b0 := hB.cell 0; replace b1 := hB.cell 1; replace b2 := hB.cell 2; replace b3 := hB.cell 3; replace b4 := hB.cell 4) | (go_at_call 43; with_reducible refine (HVd.out _).mono ?_; rintro e wd ⟨rfl, hbd⟩; replace hb := hb.trans (hbd.mono hb.size); replace hB := hB.below hbd hl; replace hl := hB.lt; replace b0 := hB.cell 0; replace b1 := hB.cell 1; replace b2 := hB.cell 2; replace b3 := hB.cell 3; replace b4 := hB.cell 4))
    go_ret
    exact ⟨_, rfl, ⟨fun h => absurd h (by decide), fun h => by obtain ⟨_, a2, a3, a4, a5, a6, a7, a8, a9⟩ := h; have h2 : validL p.data.toList = true := a3 (show (2 : Int) ≠ 9 by decide); rw [vp] at h2; cases h2⟩, hb⟩
  | true =>
    have vp := HP.out
    by_cases de : d = ⟨#[]⟩
    rotate_left
    · have den := bytes_ne de
      go_wp2_with (first | (go_at_call 42; refine (fields_2 _).mono ?_; rintro e wf ⟨rfl, hw⟩; rw [hw]; clear hw) | (go_at_call 43; with_reducible refine (HVp.out _).mono ?_; rintro e wp ⟨rfl, hbp⟩; replace hb := hb.trans (hbp.mono hb.size); replace hB := hB.below hbp hl; replace hl := hB.lt; replace b0 := hB.cell 0; replace b1 := hB.cell 1; replace b2 := hB.cell 2; replace b3 := hB.cell 3; replace b4 := hB.cell 4) | (go_at_call 43; with_reducible refine (HVd.out _).mono ?_; rintro e wd ⟨rfl, hbd⟩; replace hb := hb.trans (hbd.mono hb.size); replace hB := hB.below hbd hl; replace hl := hB.lt; replace b0 := hB.cell 0; replace b1 := hB.cell 1; replace b2 := hB.cell 2; replace b3 := hB.cell 3; replace b4 := hB.cell 4))
      go_ret
      exact ⟨_, rfl, ⟨fun h => absurd h (by decide), fun h => by obtain ⟨_, a2, a3, a4, a5, a6, a7, a8, a9⟩ := h; exact absurd (a6 rfl) de⟩, hb⟩
    subst de
    by_cases m0 : md = 0
    rotate_left
    ·
      go_wp2_with (first | (go_at_call 42; refine (fields_2 _).mono ?_; rintro e wf ⟨rfl, hw⟩; rw [hw]; clear hw) | (go_at_call 43; with_reducible refine (HVp.out _).mono ?_; rintro e wp ⟨rfl, hbp⟩; replace hb := hb.trans (hbp.mono hb.size); replace hB := hB.below hbp hl; replace hl := hB.lt; replace b0 := hB.cell 0; replace b1 := hB.cell 1; replace b2 := hB.cell 2; replace b3 := hB.cell 3; replace b4 := hB.cell 4) | (go_at_call 43; with_reducible refine (HVd.out _).mono ?_; rintro e wd ⟨rfl, hbd⟩; replace hb := hb.trans (hbd.mono hb.size); replace hB := hB.below hbd hl; replace hl := hB.lt; replace b0 := hB.cell 0; replace b1 := hB.cell 1; replace b2 := hB.cell 2; replace b3 := hB.cell 3; replace b4 := hB.cell 4))
      go_ret
      exact ⟨_, rfl, ⟨fun h => absurd h (by decide), fun h => by obtain ⟨_, a2, a3, a4, a5, a6, a7, a8, a9⟩ := h; have h2 : md = 0 := a7 rfl; omega⟩, hb⟩
    subst m0
    by_cases r0 : rf = 0
    rotate_left
    ·
      go_wp2_with (first | (go_at_call 42; refine (fields_2 _).mono ?_; rintro e wf ⟨rfl, hw⟩; rw [hw]; clear hw) | (go_at_call 43; with_reducible refine (HVp.out _).mono ?_; rintro e wp ⟨rfl, hbp⟩; replace hb := hb.trans (hbp.mono hb.size); replace hB := hB.below hbp hl; replace hl := hB.lt; replace b0 := hB.cell 0; replace b1 := hB.cell 1; replace b2 := hB.cell 2; replace b3 := hB.cell 3; replace b4 := hB.cell 4) | (go_at_call 43; with_reducible refine (HVd.out _).mono ?_; rintro e wd ⟨rfl, hbd⟩; replace hb := hb.trans (hbd.mono hb.size); replace hB := hB.below hbd hl; replace hl := hB.lt; replace b0 := hB.cell 0; replace b1 := hB.cell 1; replace b2 := hB.cell 2; replace b3 := hB.cell 3; replace b4 := hB.cell 4))
      go_ret
      exact ⟨_, rfl, ⟨fun h => absurd h (by decide), fun h => by obtain ⟨_, a2, a3, a4, a5, a6, a7, a8, a9⟩ := h; have h2 : rf = 0 := a8 (show (2 : Int) ≠ 6 by decide); omega⟩, hb⟩
    subst r0
    go_wp2_with (first | (go_at_call 42; refine (fields_2 _).mono ?_; rintro e wf ⟨rfl, hw⟩; rw [hw]; clear hw) | (go_at_call 43; with_reducible refine (HVp.out _).mono ?_; rintro e wp ⟨rfl, hbp⟩; replace hb := hb.trans (hbp.mono hb.size); replace hB := hB.below hbp hl; replace hl := hB.lt; replace b0 := hB.cell 0; replace b1 := hB.cell 1; replace b2 := hB.cell 2; replace b3 := hB.cell 3; replace b4 := hB.cell 4) | (go_at_call 43; with_reducible refine (HVd.out _).mono ?_; rintro e wd ⟨rfl, hbd⟩; replace hb := hb.trans (hbd.mono hb.size); replace hB := hB.below hbd hl; replace hl := hB.lt; replace b0 := hB.cell 0; replace b1 := hB.cell 1; replace b2 := hB.cell 2; replace b3 := hB.cell 3; replace b4 := hB.cell 4))
    go_ret
    exact ⟨_, rfl, ⟨fun _ => ⟨(show (1 : Int) ≤ 2 ∧ (2 : Int) ≤ 9 by decide), fun h => absurd h (show ¬ modeB 2 = true by decide), fun _ => vp, fun h => absurd h (show ¬ toB 2 = true by decide), fun h => absurd h (show ¬ (2 : Int) = 9 by decide), fun _ => rfl, fun _ => rfl, fun _ => rfl, fun h => absurd h (show ¬ (2 : Int) = 6 by decide)⟩, fun _ => rfl⟩, hb⟩
set_option maxRecDepth 100000 in
set_option maxHeartbeats 4000000 in
theorem chk_3 (p d : ByteArray) (md rf : Int) (hp : p.size ≤ 1000) (hd : d.size ≤ 1000) (w : World) : Calls Tryd.prog 35 #[.agg (Ins.cells ⟨3, p, d, md, rf⟩)] w (ChkR ⟨3, p, d, md, rf⟩ w) := by
  unfold Ins.cells
  have hB := Blk.new w 42 #[.int .i64 3, .string p, .string d, .int .i64 md, .int .i64 rf]
  have b0 := hB.cell 0; have b1 := hB.cell 1; have b2 := hB.cell 2; have b3 := hB.cell 3; have b4 := hB.cell 4
  have hl := hB.lt
  have hb := (Below.refl w.heap.size w).alloc (Nat.le_refl _) (.cells #[.int .i64 3, .string p, .string d, .int .i64 md, .int .i64 rf] 42)
  have HVp := Lib.hid (fun W => valid_any p W (by omega))
  have HVd := Lib.hid (fun W => valid_any d W (by omega))
  clear hp hd
  obtain ⟨P, hP⟩ : ∃ b, validL p.data.toList = b := ⟨_, rfl⟩
  obtain ⟨D, hD⟩ : ∃ b, validL d.data.toList = b := ⟨_, rfl⟩
  rw [hP] at HVp
  rw [hD] at HVd
  have HP := Lib.hid hP; have HD := Lib.hid hD
  clear hP hD
  go_enter Tryd.func35, Tryd.ntmps35
  cases P with
  | false =>
    have vp := HP.out
    go_wp2_with (first | (go_at_call 42; refine (fields_3 _).mono ?_; rintro e wf ⟨rfl, hw⟩; rw [hw]; clear hw) | (go_at_call 43; with_reducible refine (HVp.out _).mono ?_; rintro e wp ⟨rfl, hbp⟩; replace hb := hb.trans (hbp.mono hb.size); replace hB := hB.below hbp hl; replace hl := hB.lt; replace b0 := hB.cell 0; replace b1 := hB.cell 1; replace b2 := hB.cell 2; replace b3 := hB.cell 3; replace b4 := hB.cell 4) | (go_at_call 43; with_reducible refine (HVd.out _).mono ?_; rintro e wd ⟨rfl, hbd⟩; replace hb := hb.trans (hbd.mono hb.size); replace hB := hB.below hbd hl; replace hl := hB.lt; replace b0 := hB.cell 0; replace b1 := hB.cell 1; replace b2 := hB.cell 2; replace b3 := hB.cell 3; replace b4 := hB.cell 4))
    go_ret
    exact ⟨_, rfl, ⟨fun h => absurd h (by decide), fun h => by obtain ⟨_, a2, a3, a4, a5, a6, a7, a8, a9⟩ := h; have h2 : validL p.data.toList = true := a3 (show (3 : Int) ≠ 9 by decide); rw [vp] at h2; cases h2⟩, hb⟩
  | true =>
    have vp := HP.out
    cases D with
    | false =>
      have vd := HD.out
      go_wp2_with (first | (go_at_call 42; refine (fields_3 _).mono ?_; rintro e wf ⟨rfl, hw⟩; rw [hw]; clear hw) | (go_at_call 43; with_reducible refine (HVp.out _).mono ?_; rintro e wp ⟨rfl, hbp⟩; replace hb := hb.trans (hbp.mono hb.size); replace hB := hB.below hbp hl; replace hl := hB.lt; replace b0 := hB.cell 0; replace b1 := hB.cell 1; replace b2 := hB.cell 2; replace b3 := hB.cell 3; replace b4 := hB.cell 4) | (go_at_call 43; with_reducible refine (HVd.out _).mono ?_; rintro e wd ⟨rfl, hbd⟩; replace hb := hb.trans (hbd.mono hb.size); replace hB := hB.below hbd hl; replace hl := hB.lt; replace b0 := hB.cell 0; replace b1 := hB.cell 1; replace b2 := hB.cell 2; replace b3 := hB.cell 3; replace b4 := hB.cell 4))
      go_ret
      exact ⟨_, rfl, ⟨fun h => absurd h (by decide), fun h => by obtain ⟨_, a2, a3, a4, a5, a6, a7, a8, a9⟩ := h; have h2 : validL d.data.toList = true := a4 rfl; rw [vd] at h2; cases h2⟩, hb⟩
    | true =>
      have vd := HD.out
      by_cases m0 : md = 0
      rotate_left
      ·
        go_wp2_with (first | (go_at_call 42; refine (fields_3 _).mono ?_; rintro e wf ⟨rfl, hw⟩; rw [hw]; clear hw) | (go_at_call 43; with_reducible refine (HVp.out _).mono ?_; rintro e wp ⟨rfl, hbp⟩; replace hb := hb.trans (hbp.mono hb.size); replace hB := hB.below hbp hl; replace hl := hB.lt; replace b0 := hB.cell 0; replace b1 := hB.cell 1; replace b2 := hB.cell 2; replace b3 := hB.cell 3; replace b4 := hB.cell 4) | (go_at_call 43; with_reducible refine (HVd.out _).mono ?_; rintro e wd ⟨rfl, hbd⟩; replace hb := hb.trans (hbd.mono hb.size); replace hB := hB.below hbd hl; replace hl := hB.lt; replace b0 := hB.cell 0; replace b1 := hB.cell 1; replace b2 := hB.cell 2; replace b3 := hB.cell 3; replace b4 := hB.cell 4))
        go_ret
        exact ⟨_, rfl, ⟨fun h => absurd h (by decide), fun h => by obtain ⟨_, a2, a3, a4, a5, a6, a7, a8, a9⟩ := h; have h2 : md = 0 := a7 rfl; omega⟩, hb⟩
      subst m0
      by_cases r0 : rf = 0
      rotate_left
      ·
        go_wp2_with (first | (go_at_call 42; refine (fields_3 _).mono ?_; rintro e wf ⟨rfl, hw⟩; rw [hw]; clear hw) | (go_at_call 43; with_reducible refine (HVp.out _).mono ?_; rintro e wp ⟨rfl, hbp⟩; replace hb := hb.trans (hbp.mono hb.size); replace hB := hB.below hbp hl; replace hl := hB.lt; replace b0 := hB.cell 0; replace b1 := hB.cell 1; replace b2 := hB.cell 2; replace b3 := hB.cell 3; replace b4 := hB.cell 4) | (go_at_call 43; with_reducible refine (HVd.out _).mono ?_; rintro e wd ⟨rfl, hbd⟩; replace hb := hb.trans (hbd.mono hb.size); replace hB := hB.below hbd hl; replace hl := hB.lt; replace b0 := hB.cell 0; replace b1 := hB.cell 1; replace b2 := hB.cell 2; replace b3 := hB.cell 3; replace b4 := hB.cell 4))
        go_ret
        exact ⟨_, rfl, ⟨fun h => absurd h (by decide), fun h => by obtain ⟨_, a2, a3, a4, a5, a6, a7, a8, a9⟩ := h; have h2 : rf = 0 := a8 (show (3 : Int) ≠ 6 by decide); omega⟩, hb⟩
      subst r0
      go_wp2_with (first | (go_at_call 42; refine (fields_3 _).mono ?_; rintro e wf ⟨rfl, hw⟩; rw [hw]; clear hw) | (go_at_call 43; with_reducible refine (HVp.out _).mono ?_; rintro e wp ⟨rfl, hbp⟩; replace hb := hb.trans (hbp.mono hb.size); replace hB := hB.below hbp hl; replace hl := hB.lt; replace b0 := hB.cell 0; replace b1 := hB.cell 1; replace b2 := hB.cell 2; replace b3 := hB.cell 3; replace b4 := hB.cell 4) | (go_at_call 43; with_reducible refine (HVd.out _).mono ?_; rintro e wd ⟨rfl, hbd⟩; replace hb := hb.trans (hbd.mono hb.size); replace hB := hB.below hbd hl; replace hl := hB.lt; replace b0 := hB.cell 0; replace b1 := hB.cell 1; replace b2 := hB.cell 2; replace b3 := hB.cell 3; replace b4 := hB.cell 4))
      go_ret
      exact ⟨_, rfl, ⟨fun _ => ⟨(show (1 : Int) ≤ 3 ∧ (3 : Int) ≤ 9 by decide), fun h => absurd h (show ¬ modeB 3 = true by decide), fun _ => vp, fun _ => vd, fun h => absurd h (show ¬ (3 : Int) = 9 by decide), fun h => absurd h (show ¬ toB 3 = false by decide), fun _ => rfl, fun _ => rfl, fun h => absurd h (show ¬ (3 : Int) = 6 by decide)⟩, fun _ => rfl⟩, hb⟩
set_option maxRecDepth 100000 in
set_option maxHeartbeats 4000000 in
theorem chk_4 (p d : ByteArray) (md rf : Int) (hp : p.size ≤ 1000) (hd : d.size ≤ 1000) (w : World) : Calls Tryd.prog 35 #[.agg (Ins.cells ⟨4, p, d, md, rf⟩)] w (ChkR ⟨4, p, d, md, rf⟩ w) := by
  unfold Ins.cells
  have hB := Blk.new w 42 #[.int .i64 4, .string p, .string d, .int .i64 md, .int .i64 rf]
  have b0 := hB.cell 0; have b1 := hB.cell 1; have b2 := hB.cell 2; have b3 := hB.cell 3; have b4 := hB.cell 4
  have hl := hB.lt
  have hb := (Below.refl w.heap.size w).alloc (Nat.le_refl _) (.cells #[.int .i64 4, .string p, .string d, .int .i64 md, .int .i64 rf] 42)
  have HVp := Lib.hid (fun W => valid_any p W (by omega))
  have HVd := Lib.hid (fun W => valid_any d W (by omega))
  clear hp hd
  obtain ⟨P, hP⟩ : ∃ b, validL p.data.toList = b := ⟨_, rfl⟩
  obtain ⟨D, hD⟩ : ∃ b, validL d.data.toList = b := ⟨_, rfl⟩
  rw [hP] at HVp
  rw [hD] at HVd
  have HP := Lib.hid hP; have HD := Lib.hid hD
  clear hP hD
  go_enter Tryd.func35, Tryd.ntmps35
  cases P with
  | false =>
    have vp := HP.out
    go_wp2_with (first | (go_at_call 42; refine (fields_4 _).mono ?_; rintro e wf ⟨rfl, hw⟩; rw [hw]; clear hw) | (go_at_call 43; with_reducible refine (HVp.out _).mono ?_; rintro e wp ⟨rfl, hbp⟩; replace hb := hb.trans (hbp.mono hb.size); replace hB := hB.below hbp hl; replace hl := hB.lt; replace b0 := hB.cell 0; replace b1 := hB.cell 1; replace b2 := hB.cell 2; replace b3 := hB.cell 3; replace b4 := hB.cell 4) | (go_at_call 43; with_reducible refine (HVd.out _).mono ?_; rintro e wd ⟨rfl, hbd⟩; replace hb := hb.trans (hbd.mono hb.size); replace hB := hB.below hbd hl; replace hl := hB.lt; replace b0 := hB.cell 0; replace b1 := hB.cell 1; replace b2 := hB.cell 2; replace b3 := hB.cell 3; replace b4 := hB.cell 4))
    go_ret
    exact ⟨_, rfl, ⟨fun h => absurd h (by decide), fun h => by obtain ⟨_, a2, a3, a4, a5, a6, a7, a8, a9⟩ := h; have h2 : validL p.data.toList = true := a3 (show (4 : Int) ≠ 9 by decide); rw [vp] at h2; cases h2⟩, hb⟩
  | true =>
    have vp := HP.out
    cases D with
    | false =>
      have vd := HD.out
      go_wp2_with (first | (go_at_call 42; refine (fields_4 _).mono ?_; rintro e wf ⟨rfl, hw⟩; rw [hw]; clear hw) | (go_at_call 43; with_reducible refine (HVp.out _).mono ?_; rintro e wp ⟨rfl, hbp⟩; replace hb := hb.trans (hbp.mono hb.size); replace hB := hB.below hbp hl; replace hl := hB.lt; replace b0 := hB.cell 0; replace b1 := hB.cell 1; replace b2 := hB.cell 2; replace b3 := hB.cell 3; replace b4 := hB.cell 4) | (go_at_call 43; with_reducible refine (HVd.out _).mono ?_; rintro e wd ⟨rfl, hbd⟩; replace hb := hb.trans (hbd.mono hb.size); replace hB := hB.below hbd hl; replace hl := hB.lt; replace b0 := hB.cell 0; replace b1 := hB.cell 1; replace b2 := hB.cell 2; replace b3 := hB.cell 3; replace b4 := hB.cell 4))
      go_ret
      exact ⟨_, rfl, ⟨fun h => absurd h (by decide), fun h => by obtain ⟨_, a2, a3, a4, a5, a6, a7, a8, a9⟩ := h; have h2 : validL d.data.toList = true := a4 rfl; rw [vd] at h2; cases h2⟩, hb⟩
    | true =>
      have vd := HD.out
      by_cases m0 : md = 0
      rotate_left
      ·
        go_wp2_with (first | (go_at_call 42; refine (fields_4 _).mono ?_; rintro e wf ⟨rfl, hw⟩; rw [hw]; clear hw) | (go_at_call 43; with_reducible refine (HVp.out _).mono ?_; rintro e wp ⟨rfl, hbp⟩; replace hb := hb.trans (hbp.mono hb.size); replace hB := hB.below hbp hl; replace hl := hB.lt; replace b0 := hB.cell 0; replace b1 := hB.cell 1; replace b2 := hB.cell 2; replace b3 := hB.cell 3; replace b4 := hB.cell 4) | (go_at_call 43; with_reducible refine (HVd.out _).mono ?_; rintro e wd ⟨rfl, hbd⟩; replace hb := hb.trans (hbd.mono hb.size); replace hB := hB.below hbd hl; replace hl := hB.lt; replace b0 := hB.cell 0; replace b1 := hB.cell 1; replace b2 := hB.cell 2; replace b3 := hB.cell 3; replace b4 := hB.cell 4))
        go_ret
        exact ⟨_, rfl, ⟨fun h => absurd h (by decide), fun h => by obtain ⟨_, a2, a3, a4, a5, a6, a7, a8, a9⟩ := h; have h2 : md = 0 := a7 rfl; omega⟩, hb⟩
      subst m0
      by_cases r0 : rf = 0
      rotate_left
      ·
        go_wp2_with (first | (go_at_call 42; refine (fields_4 _).mono ?_; rintro e wf ⟨rfl, hw⟩; rw [hw]; clear hw) | (go_at_call 43; with_reducible refine (HVp.out _).mono ?_; rintro e wp ⟨rfl, hbp⟩; replace hb := hb.trans (hbp.mono hb.size); replace hB := hB.below hbp hl; replace hl := hB.lt; replace b0 := hB.cell 0; replace b1 := hB.cell 1; replace b2 := hB.cell 2; replace b3 := hB.cell 3; replace b4 := hB.cell 4) | (go_at_call 43; with_reducible refine (HVd.out _).mono ?_; rintro e wd ⟨rfl, hbd⟩; replace hb := hb.trans (hbd.mono hb.size); replace hB := hB.below hbd hl; replace hl := hB.lt; replace b0 := hB.cell 0; replace b1 := hB.cell 1; replace b2 := hB.cell 2; replace b3 := hB.cell 3; replace b4 := hB.cell 4))
        go_ret
        exact ⟨_, rfl, ⟨fun h => absurd h (by decide), fun h => by obtain ⟨_, a2, a3, a4, a5, a6, a7, a8, a9⟩ := h; have h2 : rf = 0 := a8 (show (4 : Int) ≠ 6 by decide); omega⟩, hb⟩
      subst r0
      go_wp2_with (first | (go_at_call 42; refine (fields_4 _).mono ?_; rintro e wf ⟨rfl, hw⟩; rw [hw]; clear hw) | (go_at_call 43; with_reducible refine (HVp.out _).mono ?_; rintro e wp ⟨rfl, hbp⟩; replace hb := hb.trans (hbp.mono hb.size); replace hB := hB.below hbp hl; replace hl := hB.lt; replace b0 := hB.cell 0; replace b1 := hB.cell 1; replace b2 := hB.cell 2; replace b3 := hB.cell 3; replace b4 := hB.cell 4) | (go_at_call 43; with_reducible refine (HVd.out _).mono ?_; rintro e wd ⟨rfl, hbd⟩; replace hb := hb.trans (hbd.mono hb.size); replace hB := hB.below hbd hl; replace hl := hB.lt; replace b0 := hB.cell 0; replace b1 := hB.cell 1; replace b2 := hB.cell 2; replace b3 := hB.cell 3; replace b4 := hB.cell 4))
      go_ret
      exact ⟨_, rfl, ⟨fun _ => ⟨(show (1 : Int) ≤ 4 ∧ (4 : Int) ≤ 9 by decide), fun h => absurd h (show ¬ modeB 4 = true by decide), fun _ => vp, fun _ => vd, fun h => absurd h (show ¬ (4 : Int) = 9 by decide), fun h => absurd h (show ¬ toB 4 = false by decide), fun _ => rfl, fun _ => rfl, fun h => absurd h (show ¬ (4 : Int) = 6 by decide)⟩, fun _ => rfl⟩, hb⟩
set_option maxRecDepth 100000 in
set_option maxHeartbeats 4000000 in
theorem chk_5 (p d : ByteArray) (md rf : Int) (hp : p.size ≤ 1000) (hd : d.size ≤ 1000) (w : World) : Calls Tryd.prog 35 #[.agg (Ins.cells ⟨5, p, d, md, rf⟩)] w (ChkR ⟨5, p, d, md, rf⟩ w) := by
  unfold Ins.cells
  have hB := Blk.new w 42 #[.int .i64 5, .string p, .string d, .int .i64 md, .int .i64 rf]
  have b0 := hB.cell 0; have b1 := hB.cell 1; have b2 := hB.cell 2; have b3 := hB.cell 3; have b4 := hB.cell 4
  have hl := hB.lt
  have hb := (Below.refl w.heap.size w).alloc (Nat.le_refl _) (.cells #[.int .i64 5, .string p, .string d, .int .i64 md, .int .i64 rf] 42)
  have HVp := Lib.hid (fun W => valid_any p W (by omega))
  have HVd := Lib.hid (fun W => valid_any d W (by omega))
  clear hp hd
  obtain ⟨P, hP⟩ : ∃ b, validL p.data.toList = b := ⟨_, rfl⟩
  obtain ⟨D, hD⟩ : ∃ b, validL d.data.toList = b := ⟨_, rfl⟩
  rw [hP] at HVp
  rw [hD] at HVd
  have HP := Lib.hid hP; have HD := Lib.hid hD
  clear hP hD
  go_enter Tryd.func35, Tryd.ntmps35
  cases P with
  | false =>
    have vp := HP.out
    go_wp2_with (first | (go_at_call 42; refine (fields_5 _).mono ?_; rintro e wf ⟨rfl, hw⟩; rw [hw]; clear hw) | (go_at_call 43; with_reducible refine (HVp.out _).mono ?_; rintro e wp ⟨rfl, hbp⟩; replace hb := hb.trans (hbp.mono hb.size); replace hB := hB.below hbp hl; replace hl := hB.lt; replace b0 := hB.cell 0; replace b1 := hB.cell 1; replace b2 := hB.cell 2; replace b3 := hB.cell 3; replace b4 := hB.cell 4) | (go_at_call 43; with_reducible refine (HVd.out _).mono ?_; rintro e wd ⟨rfl, hbd⟩; replace hb := hb.trans (hbd.mono hb.size); replace hB := hB.below hbd hl; replace hl := hB.lt; replace b0 := hB.cell 0; replace b1 := hB.cell 1; replace b2 := hB.cell 2; replace b3 := hB.cell 3; replace b4 := hB.cell 4))
    go_ret
    exact ⟨_, rfl, ⟨fun h => absurd h (by decide), fun h => by obtain ⟨_, a2, a3, a4, a5, a6, a7, a8, a9⟩ := h; have h2 : validL p.data.toList = true := a3 (show (5 : Int) ≠ 9 by decide); rw [vp] at h2; cases h2⟩, hb⟩
  | true =>
    have vp := HP.out
    by_cases de : d = ⟨#[]⟩
    rotate_left
    · have den := bytes_ne de
      go_wp2_with (first | (go_at_call 42; refine (fields_5 _).mono ?_; rintro e wf ⟨rfl, hw⟩; rw [hw]; clear hw) | (go_at_call 43; with_reducible refine (HVp.out _).mono ?_; rintro e wp ⟨rfl, hbp⟩; replace hb := hb.trans (hbp.mono hb.size); replace hB := hB.below hbp hl; replace hl := hB.lt; replace b0 := hB.cell 0; replace b1 := hB.cell 1; replace b2 := hB.cell 2; replace b3 := hB.cell 3; replace b4 := hB.cell 4) | (go_at_call 43; with_reducible refine (HVd.out _).mono ?_; rintro e wd ⟨rfl, hbd⟩; replace hb := hb.trans (hbd.mono hb.size); replace hB := hB.below hbd hl; replace hl := hB.lt; replace b0 := hB.cell 0; replace b1 := hB.cell 1; replace b2 := hB.cell 2; replace b3 := hB.cell 3; replace b4 := hB.cell 4))
      go_ret
      exact ⟨_, rfl, ⟨fun h => absurd h (by decide), fun h => by obtain ⟨_, a2, a3, a4, a5, a6, a7, a8, a9⟩ := h; exact absurd (a6 rfl) de⟩, hb⟩
    subst de
    by_cases m0 : md = 0
    rotate_left
    ·
      go_wp2_with (first | (go_at_call 42; refine (fields_5 _).mono ?_; rintro e wf ⟨rfl, hw⟩; rw [hw]; clear hw) | (go_at_call 43; with_reducible refine (HVp.out _).mono ?_; rintro e wp ⟨rfl, hbp⟩; replace hb := hb.trans (hbp.mono hb.size); replace hB := hB.below hbp hl; replace hl := hB.lt; replace b0 := hB.cell 0; replace b1 := hB.cell 1; replace b2 := hB.cell 2; replace b3 := hB.cell 3; replace b4 := hB.cell 4) | (go_at_call 43; with_reducible refine (HVd.out _).mono ?_; rintro e wd ⟨rfl, hbd⟩; replace hb := hb.trans (hbd.mono hb.size); replace hB := hB.below hbd hl; replace hl := hB.lt; replace b0 := hB.cell 0; replace b1 := hB.cell 1; replace b2 := hB.cell 2; replace b3 := hB.cell 3; replace b4 := hB.cell 4))
      go_ret
      exact ⟨_, rfl, ⟨fun h => absurd h (by decide), fun h => by obtain ⟨_, a2, a3, a4, a5, a6, a7, a8, a9⟩ := h; have h2 : md = 0 := a7 rfl; omega⟩, hb⟩
    subst m0
    by_cases r0 : rf = 0
    rotate_left
    ·
      go_wp2_with (first | (go_at_call 42; refine (fields_5 _).mono ?_; rintro e wf ⟨rfl, hw⟩; rw [hw]; clear hw) | (go_at_call 43; with_reducible refine (HVp.out _).mono ?_; rintro e wp ⟨rfl, hbp⟩; replace hb := hb.trans (hbp.mono hb.size); replace hB := hB.below hbp hl; replace hl := hB.lt; replace b0 := hB.cell 0; replace b1 := hB.cell 1; replace b2 := hB.cell 2; replace b3 := hB.cell 3; replace b4 := hB.cell 4) | (go_at_call 43; with_reducible refine (HVd.out _).mono ?_; rintro e wd ⟨rfl, hbd⟩; replace hb := hb.trans (hbd.mono hb.size); replace hB := hB.below hbd hl; replace hl := hB.lt; replace b0 := hB.cell 0; replace b1 := hB.cell 1; replace b2 := hB.cell 2; replace b3 := hB.cell 3; replace b4 := hB.cell 4))
      go_ret
      exact ⟨_, rfl, ⟨fun h => absurd h (by decide), fun h => by obtain ⟨_, a2, a3, a4, a5, a6, a7, a8, a9⟩ := h; have h2 : rf = 0 := a8 (show (5 : Int) ≠ 6 by decide); omega⟩, hb⟩
    subst r0
    go_wp2_with (first | (go_at_call 42; refine (fields_5 _).mono ?_; rintro e wf ⟨rfl, hw⟩; rw [hw]; clear hw) | (go_at_call 43; with_reducible refine (HVp.out _).mono ?_; rintro e wp ⟨rfl, hbp⟩; replace hb := hb.trans (hbp.mono hb.size); replace hB := hB.below hbp hl; replace hl := hB.lt; replace b0 := hB.cell 0; replace b1 := hB.cell 1; replace b2 := hB.cell 2; replace b3 := hB.cell 3; replace b4 := hB.cell 4) | (go_at_call 43; with_reducible refine (HVd.out _).mono ?_; rintro e wd ⟨rfl, hbd⟩; replace hb := hb.trans (hbd.mono hb.size); replace hB := hB.below hbd hl; replace hl := hB.lt; replace b0 := hB.cell 0; replace b1 := hB.cell 1; replace b2 := hB.cell 2; replace b3 := hB.cell 3; replace b4 := hB.cell 4))
    go_ret
    exact ⟨_, rfl, ⟨fun _ => ⟨(show (1 : Int) ≤ 5 ∧ (5 : Int) ≤ 9 by decide), fun h => absurd h (show ¬ modeB 5 = true by decide), fun _ => vp, fun h => absurd h (show ¬ toB 5 = true by decide), fun h => absurd h (show ¬ (5 : Int) = 9 by decide), fun _ => rfl, fun _ => rfl, fun _ => rfl, fun h => absurd h (show ¬ (5 : Int) = 6 by decide)⟩, fun _ => rfl⟩, hb⟩
set_option maxRecDepth 100000 in
set_option maxHeartbeats 4000000 in
theorem chk_6 (p d : ByteArray) (md rf : Int) (hp : p.size ≤ 1000) (hd : d.size ≤ 1000) (w : World) : Calls Tryd.prog 35 #[.agg (Ins.cells ⟨6, p, d, md, rf⟩)] w (ChkR ⟨6, p, d, md, rf⟩ w) := by
  unfold Ins.cells
  have hB := Blk.new w 42 #[.int .i64 6, .string p, .string d, .int .i64 md, .int .i64 rf]
  have b0 := hB.cell 0; have b1 := hB.cell 1; have b2 := hB.cell 2; have b3 := hB.cell 3; have b4 := hB.cell 4
  have hl := hB.lt
  have hb := (Below.refl w.heap.size w).alloc (Nat.le_refl _) (.cells #[.int .i64 6, .string p, .string d, .int .i64 md, .int .i64 rf] 42)
  have HVp := Lib.hid (fun W => valid_any p W (by omega))
  have HVd := Lib.hid (fun W => valid_any d W (by omega))
  clear hp hd
  obtain ⟨P, hP⟩ : ∃ b, validL p.data.toList = b := ⟨_, rfl⟩
  obtain ⟨D, hD⟩ : ∃ b, validL d.data.toList = b := ⟨_, rfl⟩
  rw [hP] at HVp
  rw [hD] at HVd
  have HP := Lib.hid hP; have HD := Lib.hid hD
  clear hP hD
  go_enter Tryd.func35, Tryd.ntmps35
  by_cases m1 : md < 0
  · have m2 : ¬ 511 < md := by omega
    go_wp2_with (first | (go_at_call 42; refine (fields_6 _).mono ?_; rintro e wf ⟨rfl, hw⟩; rw [hw]; clear hw) | (go_at_call 43; with_reducible refine (HVp.out _).mono ?_; rintro e wp ⟨rfl, hbp⟩; replace hb := hb.trans (hbp.mono hb.size); replace hB := hB.below hbp hl; replace hl := hB.lt; replace b0 := hB.cell 0; replace b1 := hB.cell 1; replace b2 := hB.cell 2; replace b3 := hB.cell 3; replace b4 := hB.cell 4) | (go_at_call 43; with_reducible refine (HVd.out _).mono ?_; rintro e wd ⟨rfl, hbd⟩; replace hb := hb.trans (hbd.mono hb.size); replace hB := hB.below hbd hl; replace hl := hB.lt; replace b0 := hB.cell 0; replace b1 := hB.cell 1; replace b2 := hB.cell 2; replace b3 := hB.cell 3; replace b4 := hB.cell 4))
    go_ret
    exact ⟨_, rfl, ⟨fun h => absurd h (by decide), fun h => by obtain ⟨_, a2, a3, a4, a5, a6, a7, a8, a9⟩ := h; have h2 := a2 rfl; simp only at h2; omega⟩, hb⟩
  by_cases m2 : 511 < md
  ·
    go_wp2_with (first | (go_at_call 42; refine (fields_6 _).mono ?_; rintro e wf ⟨rfl, hw⟩; rw [hw]; clear hw) | (go_at_call 43; with_reducible refine (HVp.out _).mono ?_; rintro e wp ⟨rfl, hbp⟩; replace hb := hb.trans (hbp.mono hb.size); replace hB := hB.below hbp hl; replace hl := hB.lt; replace b0 := hB.cell 0; replace b1 := hB.cell 1; replace b2 := hB.cell 2; replace b3 := hB.cell 3; replace b4 := hB.cell 4) | (go_at_call 43; with_reducible refine (HVd.out _).mono ?_; rintro e wd ⟨rfl, hbd⟩; replace hb := hb.trans (hbd.mono hb.size); replace hB := hB.below hbd hl; replace hl := hB.lt; replace b0 := hB.cell 0; replace b1 := hB.cell 1; replace b2 := hB.cell 2; replace b3 := hB.cell 3; replace b4 := hB.cell 4))
    go_ret
    exact ⟨_, rfl, ⟨fun h => absurd h (by decide), fun h => by obtain ⟨_, a2, a3, a4, a5, a6, a7, a8, a9⟩ := h; have h2 := a2 rfl; simp only at h2; omega⟩, hb⟩
  cases P with
  | false =>
    have vp := HP.out
    go_wp2_with (first | (go_at_call 42; refine (fields_6 _).mono ?_; rintro e wf ⟨rfl, hw⟩; rw [hw]; clear hw) | (go_at_call 43; with_reducible refine (HVp.out _).mono ?_; rintro e wp ⟨rfl, hbp⟩; replace hb := hb.trans (hbp.mono hb.size); replace hB := hB.below hbp hl; replace hl := hB.lt; replace b0 := hB.cell 0; replace b1 := hB.cell 1; replace b2 := hB.cell 2; replace b3 := hB.cell 3; replace b4 := hB.cell 4) | (go_at_call 43; with_reducible refine (HVd.out _).mono ?_; rintro e wd ⟨rfl, hbd⟩; replace hb := hb.trans (hbd.mono hb.size); replace hB := hB.below hbd hl; replace hl := hB.lt; replace b0 := hB.cell 0; replace b1 := hB.cell 1; replace b2 := hB.cell 2; replace b3 := hB.cell 3; replace b4 := hB.cell 4))
    go_ret
    exact ⟨_, rfl, ⟨fun h => absurd h (by decide), fun h => by obtain ⟨_, a2, a3, a4, a5, a6, a7, a8, a9⟩ := h; have h2 : validL p.data.toList = true := a3 (show (6 : Int) ≠ 9 by decide); rw [vp] at h2; cases h2⟩, hb⟩
  | true =>
    have vp := HP.out
    by_cases de : d = ⟨#[]⟩
    rotate_left
    · have den := bytes_ne de
      go_wp2_with (first | (go_at_call 42; refine (fields_6 _).mono ?_; rintro e wf ⟨rfl, hw⟩; rw [hw]; clear hw) | (go_at_call 43; with_reducible refine (HVp.out _).mono ?_; rintro e wp ⟨rfl, hbp⟩; replace hb := hb.trans (hbp.mono hb.size); replace hB := hB.below hbp hl; replace hl := hB.lt; replace b0 := hB.cell 0; replace b1 := hB.cell 1; replace b2 := hB.cell 2; replace b3 := hB.cell 3; replace b4 := hB.cell 4) | (go_at_call 43; with_reducible refine (HVd.out _).mono ?_; rintro e wd ⟨rfl, hbd⟩; replace hb := hb.trans (hbd.mono hb.size); replace hB := hB.below hbd hl; replace hl := hB.lt; replace b0 := hB.cell 0; replace b1 := hB.cell 1; replace b2 := hB.cell 2; replace b3 := hB.cell 3; replace b4 := hB.cell 4))
      go_ret
      exact ⟨_, rfl, ⟨fun h => absurd h (by decide), fun h => by obtain ⟨_, a2, a3, a4, a5, a6, a7, a8, a9⟩ := h; exact absurd (a6 rfl) de⟩, hb⟩
    subst de
    by_cases r1 : rf < 0
    · have r2 : ¬ 65534 < rf := by omega
      go_wp2_with (first | (go_at_call 42; refine (fields_6 _).mono ?_; rintro e wf ⟨rfl, hw⟩; rw [hw]; clear hw) | (go_at_call 43; with_reducible refine (HVp.out _).mono ?_; rintro e wp ⟨rfl, hbp⟩; replace hb := hb.trans (hbp.mono hb.size); replace hB := hB.below hbp hl; replace hl := hB.lt; replace b0 := hB.cell 0; replace b1 := hB.cell 1; replace b2 := hB.cell 2; replace b3 := hB.cell 3; replace b4 := hB.cell 4) | (go_at_call 43; with_reducible refine (HVd.out _).mono ?_; rintro e wd ⟨rfl, hbd⟩; replace hb := hb.trans (hbd.mono hb.size); replace hB := hB.below hbd hl; replace hl := hB.lt; replace b0 := hB.cell 0; replace b1 := hB.cell 1; replace b2 := hB.cell 2; replace b3 := hB.cell 3; replace b4 := hB.cell 4))
      go_ret
      exact ⟨_, rfl, ⟨fun h => absurd h (by decide), fun h => by obtain ⟨_, a2, a3, a4, a5, a6, a7, a8, a9⟩ := h; have h2 : 0 ≤ rf ∧ rf ≤ 65534 := a9 rfl; omega⟩, hb⟩
    by_cases r2 : 65534 < rf
    ·
      go_wp2_with (first | (go_at_call 42; refine (fields_6 _).mono ?_; rintro e wf ⟨rfl, hw⟩; rw [hw]; clear hw) | (go_at_call 43; with_reducible refine (HVp.out _).mono ?_; rintro e wp ⟨rfl, hbp⟩; replace hb := hb.trans (hbp.mono hb.size); replace hB := hB.below hbp hl; replace hl := hB.lt; replace b0 := hB.cell 0; replace b1 := hB.cell 1; replace b2 := hB.cell 2; replace b3 := hB.cell 3; replace b4 := hB.cell 4) | (go_at_call 43; with_reducible refine (HVd.out _).mono ?_; rintro e wd ⟨rfl, hbd⟩; replace hb := hb.trans (hbd.mono hb.size); replace hB := hB.below hbd hl; replace hl := hB.lt; replace b0 := hB.cell 0; replace b1 := hB.cell 1; replace b2 := hB.cell 2; replace b3 := hB.cell 3; replace b4 := hB.cell 4))
      go_ret
      exact ⟨_, rfl, ⟨fun h => absurd h (by decide), fun h => by obtain ⟨_, a2, a3, a4, a5, a6, a7, a8, a9⟩ := h; have h2 : 0 ≤ rf ∧ rf ≤ 65534 := a9 rfl; omega⟩, hb⟩
    go_wp2_with (first | (go_at_call 42; refine (fields_6 _).mono ?_; rintro e wf ⟨rfl, hw⟩; rw [hw]; clear hw) | (go_at_call 43; with_reducible refine (HVp.out _).mono ?_; rintro e wp ⟨rfl, hbp⟩; replace hb := hb.trans (hbp.mono hb.size); replace hB := hB.below hbp hl; replace hl := hB.lt; replace b0 := hB.cell 0; replace b1 := hB.cell 1; replace b2 := hB.cell 2; replace b3 := hB.cell 3; replace b4 := hB.cell 4) | (go_at_call 43; with_reducible refine (HVd.out _).mono ?_; rintro e wd ⟨rfl, hbd⟩; replace hb := hb.trans (hbd.mono hb.size); replace hB := hB.below hbd hl; replace hl := hB.lt; replace b0 := hB.cell 0; replace b1 := hB.cell 1; replace b2 := hB.cell 2; replace b3 := hB.cell 3; replace b4 := hB.cell 4))
    go_ret
    exact ⟨_, rfl, ⟨fun _ => ⟨(show (1 : Int) ≤ 6 ∧ (6 : Int) ≤ 9 by decide), fun _ => (by omega : 0 ≤ md ∧ md ≤ 511), fun _ => vp, fun h => absurd h (show ¬ toB 6 = true by decide), fun h => absurd h (show ¬ (6 : Int) = 9 by decide), fun _ => rfl, fun h => absurd h (show ¬ modeB 6 = false by decide), fun h => absurd rfl h, fun _ => (by omega : 0 ≤ rf ∧ rf ≤ 65534)⟩, fun _ => rfl⟩, hb⟩
set_option maxRecDepth 100000 in
set_option maxHeartbeats 4000000 in
theorem chk_7 (p d : ByteArray) (md rf : Int) (hp : p.size ≤ 1000) (hd : d.size ≤ 1000) (w : World) : Calls Tryd.prog 35 #[.agg (Ins.cells ⟨7, p, d, md, rf⟩)] w (ChkR ⟨7, p, d, md, rf⟩ w) := by
  unfold Ins.cells
  have hB := Blk.new w 42 #[.int .i64 7, .string p, .string d, .int .i64 md, .int .i64 rf]
  have b0 := hB.cell 0; have b1 := hB.cell 1; have b2 := hB.cell 2; have b3 := hB.cell 3; have b4 := hB.cell 4
  have hl := hB.lt
  have hb := (Below.refl w.heap.size w).alloc (Nat.le_refl _) (.cells #[.int .i64 7, .string p, .string d, .int .i64 md, .int .i64 rf] 42)
  have HVp := Lib.hid (fun W => valid_any p W (by omega))
  have HVd := Lib.hid (fun W => valid_any d W (by omega))
  clear hp hd
  obtain ⟨P, hP⟩ : ∃ b, validL p.data.toList = b := ⟨_, rfl⟩
  obtain ⟨D, hD⟩ : ∃ b, validL d.data.toList = b := ⟨_, rfl⟩
  rw [hP] at HVp
  rw [hD] at HVd
  have HP := Lib.hid hP; have HD := Lib.hid hD
  clear hP hD
  go_enter Tryd.func35, Tryd.ntmps35
  by_cases m1 : md < 0
  · have m2 : ¬ 511 < md := by omega
    go_wp2_with (first | (go_at_call 42; refine (fields_7 _).mono ?_; rintro e wf ⟨rfl, hw⟩; rw [hw]; clear hw) | (go_at_call 43; with_reducible refine (HVp.out _).mono ?_; rintro e wp ⟨rfl, hbp⟩; replace hb := hb.trans (hbp.mono hb.size); replace hB := hB.below hbp hl; replace hl := hB.lt; replace b0 := hB.cell 0; replace b1 := hB.cell 1; replace b2 := hB.cell 2; replace b3 := hB.cell 3; replace b4 := hB.cell 4) | (go_at_call 43; with_reducible refine (HVd.out _).mono ?_; rintro e wd ⟨rfl, hbd⟩; replace hb := hb.trans (hbd.mono hb.size); replace hB := hB.below hbd hl; replace hl := hB.lt; replace b0 := hB.cell 0; replace b1 := hB.cell 1; replace b2 := hB.cell 2; replace b3 := hB.cell 3; replace b4 := hB.cell 4))
    go_ret
    exact ⟨_, rfl, ⟨fun h => absurd h (by decide), fun h => by obtain ⟨_, a2, a3, a4, a5, a6, a7, a8, a9⟩ := h; have h2 := a2 rfl; simp only at h2; omega⟩, hb⟩
  by_cases m2 : 511 < md
  ·
    go_wp2_with (first | (go_at_call 42; refine (fields_7 _).mono ?_; rintro e wf ⟨rfl, hw⟩; rw [hw]; clear hw) | (go_at_call 43; with_reducible refine (HVp.out _).mono ?_; rintro e wp ⟨rfl, hbp⟩; replace hb := hb.trans (hbp.mono hb.size); replace hB := hB.below hbp hl; replace hl := hB.lt; replace b0 := hB.cell 0; replace b1 := hB.cell 1; replace b2 := hB.cell 2; replace b3 := hB.cell 3; replace b4 := hB.cell 4) | (go_at_call 43; with_reducible refine (HVd.out _).mono ?_; rintro e wd ⟨rfl, hbd⟩; replace hb := hb.trans (hbd.mono hb.size); replace hB := hB.below hbd hl; replace hl := hB.lt; replace b0 := hB.cell 0; replace b1 := hB.cell 1; replace b2 := hB.cell 2; replace b3 := hB.cell 3; replace b4 := hB.cell 4))
    go_ret
    exact ⟨_, rfl, ⟨fun h => absurd h (by decide), fun h => by obtain ⟨_, a2, a3, a4, a5, a6, a7, a8, a9⟩ := h; have h2 := a2 rfl; simp only at h2; omega⟩, hb⟩
  cases P with
  | false =>
    have vp := HP.out
    go_wp2_with (first | (go_at_call 42; refine (fields_7 _).mono ?_; rintro e wf ⟨rfl, hw⟩; rw [hw]; clear hw) | (go_at_call 43; with_reducible refine (HVp.out _).mono ?_; rintro e wp ⟨rfl, hbp⟩; replace hb := hb.trans (hbp.mono hb.size); replace hB := hB.below hbp hl; replace hl := hB.lt; replace b0 := hB.cell 0; replace b1 := hB.cell 1; replace b2 := hB.cell 2; replace b3 := hB.cell 3; replace b4 := hB.cell 4) | (go_at_call 43; with_reducible refine (HVd.out _).mono ?_; rintro e wd ⟨rfl, hbd⟩; replace hb := hb.trans (hbd.mono hb.size); replace hB := hB.below hbd hl; replace hl := hB.lt; replace b0 := hB.cell 0; replace b1 := hB.cell 1; replace b2 := hB.cell 2; replace b3 := hB.cell 3; replace b4 := hB.cell 4))
    go_ret
    exact ⟨_, rfl, ⟨fun h => absurd h (by decide), fun h => by obtain ⟨_, a2, a3, a4, a5, a6, a7, a8, a9⟩ := h; have h2 : validL p.data.toList = true := a3 (show (7 : Int) ≠ 9 by decide); rw [vp] at h2; cases h2⟩, hb⟩
  | true =>
    have vp := HP.out
    cases D with
    | false =>
      have vd := HD.out
      go_wp2_with (first | (go_at_call 42; refine (fields_7 _).mono ?_; rintro e wf ⟨rfl, hw⟩; rw [hw]; clear hw) | (go_at_call 43; with_reducible refine (HVp.out _).mono ?_; rintro e wp ⟨rfl, hbp⟩; replace hb := hb.trans (hbp.mono hb.size); replace hB := hB.below hbp hl; replace hl := hB.lt; replace b0 := hB.cell 0; replace b1 := hB.cell 1; replace b2 := hB.cell 2; replace b3 := hB.cell 3; replace b4 := hB.cell 4) | (go_at_call 43; with_reducible refine (HVd.out _).mono ?_; rintro e wd ⟨rfl, hbd⟩; replace hb := hb.trans (hbd.mono hb.size); replace hB := hB.below hbd hl; replace hl := hB.lt; replace b0 := hB.cell 0; replace b1 := hB.cell 1; replace b2 := hB.cell 2; replace b3 := hB.cell 3; replace b4 := hB.cell 4))
      go_ret
      exact ⟨_, rfl, ⟨fun h => absurd h (by decide), fun h => by obtain ⟨_, a2, a3, a4, a5, a6, a7, a8, a9⟩ := h; have h2 : validL d.data.toList = true := a4 rfl; rw [vd] at h2; cases h2⟩, hb⟩
    | true =>
      have vd := HD.out
      by_cases r0 : rf = 0
      rotate_left
      ·
        go_wp2_with (first | (go_at_call 42; refine (fields_7 _).mono ?_; rintro e wf ⟨rfl, hw⟩; rw [hw]; clear hw) | (go_at_call 43; with_reducible refine (HVp.out _).mono ?_; rintro e wp ⟨rfl, hbp⟩; replace hb := hb.trans (hbp.mono hb.size); replace hB := hB.below hbp hl; replace hl := hB.lt; replace b0 := hB.cell 0; replace b1 := hB.cell 1; replace b2 := hB.cell 2; replace b3 := hB.cell 3; replace b4 := hB.cell 4) | (go_at_call 43; with_reducible refine (HVd.out _).mono ?_; rintro e wd ⟨rfl, hbd⟩; replace hb := hb.trans (hbd.mono hb.size); replace hB := hB.below hbd hl; replace hl := hB.lt; replace b0 := hB.cell 0; replace b1 := hB.cell 1; replace b2 := hB.cell 2; replace b3 := hB.cell 3; replace b4 := hB.cell 4))
        go_ret
        exact ⟨_, rfl, ⟨fun h => absurd h (by decide), fun h => by obtain ⟨_, a2, a3, a4, a5, a6, a7, a8, a9⟩ := h; have h2 : rf = 0 := a8 (show (7 : Int) ≠ 6 by decide); omega⟩, hb⟩
      subst r0
      go_wp2_with (first | (go_at_call 42; refine (fields_7 _).mono ?_; rintro e wf ⟨rfl, hw⟩; rw [hw]; clear hw) | (go_at_call 43; with_reducible refine (HVp.out _).mono ?_; rintro e wp ⟨rfl, hbp⟩; replace hb := hb.trans (hbp.mono hb.size); replace hB := hB.below hbp hl; replace hl := hB.lt; replace b0 := hB.cell 0; replace b1 := hB.cell 1; replace b2 := hB.cell 2; replace b3 := hB.cell 3; replace b4 := hB.cell 4) | (go_at_call 43; with_reducible refine (HVd.out _).mono ?_; rintro e wd ⟨rfl, hbd⟩; replace hb := hb.trans (hbd.mono hb.size); replace hB := hB.below hbd hl; replace hl := hB.lt; replace b0 := hB.cell 0; replace b1 := hB.cell 1; replace b2 := hB.cell 2; replace b3 := hB.cell 3; replace b4 := hB.cell 4))
      go_ret
      exact ⟨_, rfl, ⟨fun _ => ⟨(show (1 : Int) ≤ 7 ∧ (7 : Int) ≤ 9 by decide), fun _ => (by omega : 0 ≤ md ∧ md ≤ 511), fun _ => vp, fun _ => vd, fun h => absurd h (show ¬ (7 : Int) = 9 by decide), fun h => absurd h (show ¬ toB 7 = false by decide), fun h => absurd h (show ¬ modeB 7 = false by decide), fun _ => rfl, fun h => absurd h (show ¬ (7 : Int) = 6 by decide)⟩, fun _ => rfl⟩, hb⟩
set_option maxRecDepth 100000 in
set_option maxHeartbeats 4000000 in
theorem chk_8 (p d : ByteArray) (md rf : Int) (hp : p.size ≤ 1000) (hd : d.size ≤ 1000) (w : World) : Calls Tryd.prog 35 #[.agg (Ins.cells ⟨8, p, d, md, rf⟩)] w (ChkR ⟨8, p, d, md, rf⟩ w) := by
  unfold Ins.cells
  have hB := Blk.new w 42 #[.int .i64 8, .string p, .string d, .int .i64 md, .int .i64 rf]
  have b0 := hB.cell 0; have b1 := hB.cell 1; have b2 := hB.cell 2; have b3 := hB.cell 3; have b4 := hB.cell 4
  have hl := hB.lt
  have hb := (Below.refl w.heap.size w).alloc (Nat.le_refl _) (.cells #[.int .i64 8, .string p, .string d, .int .i64 md, .int .i64 rf] 42)
  have HVp := Lib.hid (fun W => valid_any p W (by omega))
  have HVd := Lib.hid (fun W => valid_any d W (by omega))
  clear hp hd
  obtain ⟨P, hP⟩ : ∃ b, validL p.data.toList = b := ⟨_, rfl⟩
  obtain ⟨D, hD⟩ : ∃ b, validL d.data.toList = b := ⟨_, rfl⟩
  rw [hP] at HVp
  rw [hD] at HVd
  have HP := Lib.hid hP; have HD := Lib.hid hD
  clear hP hD
  go_enter Tryd.func35, Tryd.ntmps35
  by_cases m1 : md < 0
  · have m2 : ¬ 511 < md := by omega
    go_wp2_with (first | (go_at_call 42; refine (fields_8 _).mono ?_; rintro e wf ⟨rfl, hw⟩; rw [hw]; clear hw) | (go_at_call 43; with_reducible refine (HVp.out _).mono ?_; rintro e wp ⟨rfl, hbp⟩; replace hb := hb.trans (hbp.mono hb.size); replace hB := hB.below hbp hl; replace hl := hB.lt; replace b0 := hB.cell 0; replace b1 := hB.cell 1; replace b2 := hB.cell 2; replace b3 := hB.cell 3; replace b4 := hB.cell 4) | (go_at_call 43; with_reducible refine (HVd.out _).mono ?_; rintro e wd ⟨rfl, hbd⟩; replace hb := hb.trans (hbd.mono hb.size); replace hB := hB.below hbd hl; replace hl := hB.lt; replace b0 := hB.cell 0; replace b1 := hB.cell 1; replace b2 := hB.cell 2; replace b3 := hB.cell 3; replace b4 := hB.cell 4))
    go_ret
    exact ⟨_, rfl, ⟨fun h => absurd h (by decide), fun h => by obtain ⟨_, a2, a3, a4, a5, a6, a7, a8, a9⟩ := h; have h2 := a2 rfl; simp only at h2; omega⟩, hb⟩
  by_cases m2 : 511 < md
  ·
    go_wp2_with (first | (go_at_call 42; refine (fields_8 _).mono ?_; rintro e wf ⟨rfl, hw⟩; rw [hw]; clear hw) | (go_at_call 43; with_reducible refine (HVp.out _).mono ?_; rintro e wp ⟨rfl, hbp⟩; replace hb := hb.trans (hbp.mono hb.size); replace hB := hB.below hbp hl; replace hl := hB.lt; replace b0 := hB.cell 0; replace b1 := hB.cell 1; replace b2 := hB.cell 2; replace b3 := hB.cell 3; replace b4 := hB.cell 4) | (go_at_call 43; with_reducible refine (HVd.out _).mono ?_; rintro e wd ⟨rfl, hbd⟩; replace hb := hb.trans (hbd.mono hb.size); replace hB := hB.below hbd hl; replace hl := hB.lt; replace b0 := hB.cell 0; replace b1 := hB.cell 1; replace b2 := hB.cell 2; replace b3 := hB.cell 3; replace b4 := hB.cell 4))
    go_ret
    exact ⟨_, rfl, ⟨fun h => absurd h (by decide), fun h => by obtain ⟨_, a2, a3, a4, a5, a6, a7, a8, a9⟩ := h; have h2 := a2 rfl; simp only at h2; omega⟩, hb⟩
  cases P with
  | false =>
    have vp := HP.out
    go_wp2_with (first | (go_at_call 42; refine (fields_8 _).mono ?_; rintro e wf ⟨rfl, hw⟩; rw [hw]; clear hw) | (go_at_call 43; with_reducible refine (HVp.out _).mono ?_; rintro e wp ⟨rfl, hbp⟩; replace hb := hb.trans (hbp.mono hb.size); replace hB := hB.below hbp hl; replace hl := hB.lt; replace b0 := hB.cell 0; replace b1 := hB.cell 1; replace b2 := hB.cell 2; replace b3 := hB.cell 3; replace b4 := hB.cell 4) | (go_at_call 43; with_reducible refine (HVd.out _).mono ?_; rintro e wd ⟨rfl, hbd⟩; replace hb := hb.trans (hbd.mono hb.size); replace hB := hB.below hbd hl; replace hl := hB.lt; replace b0 := hB.cell 0; replace b1 := hB.cell 1; replace b2 := hB.cell 2; replace b3 := hB.cell 3; replace b4 := hB.cell 4))
    go_ret
    exact ⟨_, rfl, ⟨fun h => absurd h (by decide), fun h => by obtain ⟨_, a2, a3, a4, a5, a6, a7, a8, a9⟩ := h; have h2 : validL p.data.toList = true := a3 (show (8 : Int) ≠ 9 by decide); rw [vp] at h2; cases h2⟩, hb⟩
  | true =>
    have vp := HP.out
    by_cases de : d = ⟨#[]⟩
    rotate_left
    · have den := bytes_ne de
      go_wp2_with (first | (go_at_call 42; refine (fields_8 _).mono ?_; rintro e wf ⟨rfl, hw⟩; rw [hw]; clear hw) | (go_at_call 43; with_reducible refine (HVp.out _).mono ?_; rintro e wp ⟨rfl, hbp⟩; replace hb := hb.trans (hbp.mono hb.size); replace hB := hB.below hbp hl; replace hl := hB.lt; replace b0 := hB.cell 0; replace b1 := hB.cell 1; replace b2 := hB.cell 2; replace b3 := hB.cell 3; replace b4 := hB.cell 4) | (go_at_call 43; with_reducible refine (HVd.out _).mono ?_; rintro e wd ⟨rfl, hbd⟩; replace hb := hb.trans (hbd.mono hb.size); replace hB := hB.below hbd hl; replace hl := hB.lt; replace b0 := hB.cell 0; replace b1 := hB.cell 1; replace b2 := hB.cell 2; replace b3 := hB.cell 3; replace b4 := hB.cell 4))
      go_ret
      exact ⟨_, rfl, ⟨fun h => absurd h (by decide), fun h => by obtain ⟨_, a2, a3, a4, a5, a6, a7, a8, a9⟩ := h; exact absurd (a6 rfl) de⟩, hb⟩
    subst de
    by_cases r0 : rf = 0
    rotate_left
    ·
      go_wp2_with (first | (go_at_call 42; refine (fields_8 _).mono ?_; rintro e wf ⟨rfl, hw⟩; rw [hw]; clear hw) | (go_at_call 43; with_reducible refine (HVp.out _).mono ?_; rintro e wp ⟨rfl, hbp⟩; replace hb := hb.trans (hbp.mono hb.size); replace hB := hB.below hbp hl; replace hl := hB.lt; replace b0 := hB.cell 0; replace b1 := hB.cell 1; replace b2 := hB.cell 2; replace b3 := hB.cell 3; replace b4 := hB.cell 4) | (go_at_call 43; with_reducible refine (HVd.out _).mono ?_; rintro e wd ⟨rfl, hbd⟩; replace hb := hb.trans (hbd.mono hb.size); replace hB := hB.below hbd hl; replace hl := hB.lt; replace b0 := hB.cell 0; replace b1 := hB.cell 1; replace b2 := hB.cell 2; replace b3 := hB.cell 3; replace b4 := hB.cell 4))
      go_ret
      exact ⟨_, rfl, ⟨fun h => absurd h (by decide), fun h => by obtain ⟨_, a2, a3, a4, a5, a6, a7, a8, a9⟩ := h; have h2 : rf = 0 := a8 (show (8 : Int) ≠ 6 by decide); omega⟩, hb⟩
    subst r0
    go_wp2_with (first | (go_at_call 42; refine (fields_8 _).mono ?_; rintro e wf ⟨rfl, hw⟩; rw [hw]; clear hw) | (go_at_call 43; with_reducible refine (HVp.out _).mono ?_; rintro e wp ⟨rfl, hbp⟩; replace hb := hb.trans (hbp.mono hb.size); replace hB := hB.below hbp hl; replace hl := hB.lt; replace b0 := hB.cell 0; replace b1 := hB.cell 1; replace b2 := hB.cell 2; replace b3 := hB.cell 3; replace b4 := hB.cell 4) | (go_at_call 43; with_reducible refine (HVd.out _).mono ?_; rintro e wd ⟨rfl, hbd⟩; replace hb := hb.trans (hbd.mono hb.size); replace hB := hB.below hbd hl; replace hl := hB.lt; replace b0 := hB.cell 0; replace b1 := hB.cell 1; replace b2 := hB.cell 2; replace b3 := hB.cell 3; replace b4 := hB.cell 4))
    go_ret
    exact ⟨_, rfl, ⟨fun _ => ⟨(show (1 : Int) ≤ 8 ∧ (8 : Int) ≤ 9 by decide), fun _ => (by omega : 0 ≤ md ∧ md ≤ 511), fun _ => vp, fun h => absurd h (show ¬ toB 8 = true by decide), fun h => absurd h (show ¬ (8 : Int) = 9 by decide), fun _ => rfl, fun h => absurd h (show ¬ modeB 8 = false by decide), fun _ => rfl, fun h => absurd h (show ¬ (8 : Int) = 6 by decide)⟩, fun _ => rfl⟩, hb⟩
set_option maxRecDepth 100000 in
set_option maxHeartbeats 4000000 in
theorem chk_9 (p d : ByteArray) (md rf : Int) (hp : p.size ≤ 1000) (hd : d.size ≤ 1000) (w : World) : Calls Tryd.prog 35 #[.agg (Ins.cells ⟨9, p, d, md, rf⟩)] w (ChkR ⟨9, p, d, md, rf⟩ w) := by
  unfold Ins.cells
  have hB := Blk.new w 42 #[.int .i64 9, .string p, .string d, .int .i64 md, .int .i64 rf]
  have b0 := hB.cell 0; have b1 := hB.cell 1; have b2 := hB.cell 2; have b3 := hB.cell 3; have b4 := hB.cell 4
  have hl := hB.lt
  have hb := (Below.refl w.heap.size w).alloc (Nat.le_refl _) (.cells #[.int .i64 9, .string p, .string d, .int .i64 md, .int .i64 rf] 42)
  have HVp := Lib.hid (fun W => valid_any p W (by omega))
  have HVd := Lib.hid (fun W => valid_any d W (by omega))
  clear hp hd
  obtain ⟨P, hP⟩ : ∃ b, validL p.data.toList = b := ⟨_, rfl⟩
  obtain ⟨D, hD⟩ : ∃ b, validL d.data.toList = b := ⟨_, rfl⟩
  rw [hP] at HVp
  rw [hD] at HVd
  have HP := Lib.hid hP; have HD := Lib.hid hD
  clear hP hD
  go_enter Tryd.func35, Tryd.ntmps35
  by_cases pe : p = ⟨#[]⟩
  rotate_left
  · have pen := bytes_ne pe
    go_wp2_with (first | (go_at_call 42; refine (fields_9 _).mono ?_; rintro e wf ⟨rfl, hw⟩; rw [hw]; clear hw) | (go_at_call 43; with_reducible refine (HVp.out _).mono ?_; rintro e wp ⟨rfl, hbp⟩; replace hb := hb.trans (hbp.mono hb.size); replace hB := hB.below hbp hl; replace hl := hB.lt; replace b0 := hB.cell 0; replace b1 := hB.cell 1; replace b2 := hB.cell 2; replace b3 := hB.cell 3; replace b4 := hB.cell 4) | (go_at_call 43; with_reducible refine (HVd.out _).mono ?_; rintro e wd ⟨rfl, hbd⟩; replace hb := hb.trans (hbd.mono hb.size); replace hB := hB.below hbd hl; replace hl := hB.lt; replace b0 := hB.cell 0; replace b1 := hB.cell 1; replace b2 := hB.cell 2; replace b3 := hB.cell 3; replace b4 := hB.cell 4))
    go_ret
    exact ⟨_, rfl, ⟨fun h => absurd h (by decide), fun h => by obtain ⟨_, a2, a3, a4, a5, a6, a7, a8, a9⟩ := h; exact absurd (a5 rfl) pe⟩, hb⟩
  subst pe
  by_cases de : d = ⟨#[]⟩
  rotate_left
  · have den := bytes_ne de
    go_wp2_with (first | (go_at_call 42; refine (fields_9 _).mono ?_; rintro e wf ⟨rfl, hw⟩; rw [hw]; clear hw) | (go_at_call 43; with_reducible refine (HVp.out _).mono ?_; rintro e wp ⟨rfl, hbp⟩; replace hb := hb.trans (hbp.mono hb.size); replace hB := hB.below hbp hl; replace hl := hB.lt; replace b0 := hB.cell 0; replace b1 := hB.cell 1; replace b2 := hB.cell 2; replace b3 := hB.cell 3; replace b4 := hB.cell 4) | (go_at_call 43; with_reducible refine (HVd.out _).mono ?_; rintro e wd ⟨rfl, hbd⟩; replace hb := hb.trans (hbd.mono hb.size); replace hB := hB.below hbd hl; replace hl := hB.lt; replace b0 := hB.cell 0; replace b1 := hB.cell 1; replace b2 := hB.cell 2; replace b3 := hB.cell 3; replace b4 := hB.cell 4))
    go_ret
    exact ⟨_, rfl, ⟨fun h => absurd h (by decide), fun h => by obtain ⟨_, a2, a3, a4, a5, a6, a7, a8, a9⟩ := h; exact absurd (a6 rfl) de⟩, hb⟩
  subst de
  by_cases m0 : md = 0
  rotate_left
  ·
    go_wp2_with (first | (go_at_call 42; refine (fields_9 _).mono ?_; rintro e wf ⟨rfl, hw⟩; rw [hw]; clear hw) | (go_at_call 43; with_reducible refine (HVp.out _).mono ?_; rintro e wp ⟨rfl, hbp⟩; replace hb := hb.trans (hbp.mono hb.size); replace hB := hB.below hbp hl; replace hl := hB.lt; replace b0 := hB.cell 0; replace b1 := hB.cell 1; replace b2 := hB.cell 2; replace b3 := hB.cell 3; replace b4 := hB.cell 4) | (go_at_call 43; with_reducible refine (HVd.out _).mono ?_; rintro e wd ⟨rfl, hbd⟩; replace hb := hb.trans (hbd.mono hb.size); replace hB := hB.below hbd hl; replace hl := hB.lt; replace b0 := hB.cell 0; replace b1 := hB.cell 1; replace b2 := hB.cell 2; replace b3 := hB.cell 3; replace b4 := hB.cell 4))
    go_ret
    exact ⟨_, rfl, ⟨fun h => absurd h (by decide), fun h => by obtain ⟨_, a2, a3, a4, a5, a6, a7, a8, a9⟩ := h; have h2 : md = 0 := a7 rfl; omega⟩, hb⟩
  subst m0
  by_cases r0 : rf = 0
  rotate_left
  ·
    go_wp2_with (first | (go_at_call 42; refine (fields_9 _).mono ?_; rintro e wf ⟨rfl, hw⟩; rw [hw]; clear hw) | (go_at_call 43; with_reducible refine (HVp.out _).mono ?_; rintro e wp ⟨rfl, hbp⟩; replace hb := hb.trans (hbp.mono hb.size); replace hB := hB.below hbp hl; replace hl := hB.lt; replace b0 := hB.cell 0; replace b1 := hB.cell 1; replace b2 := hB.cell 2; replace b3 := hB.cell 3; replace b4 := hB.cell 4) | (go_at_call 43; with_reducible refine (HVd.out _).mono ?_; rintro e wd ⟨rfl, hbd⟩; replace hb := hb.trans (hbd.mono hb.size); replace hB := hB.below hbd hl; replace hl := hB.lt; replace b0 := hB.cell 0; replace b1 := hB.cell 1; replace b2 := hB.cell 2; replace b3 := hB.cell 3; replace b4 := hB.cell 4))
    go_ret
    exact ⟨_, rfl, ⟨fun h => absurd h (by decide), fun h => by obtain ⟨_, a2, a3, a4, a5, a6, a7, a8, a9⟩ := h; have h2 : rf = 0 := a8 (show (9 : Int) ≠ 6 by decide); omega⟩, hb⟩
  subst r0
  go_wp2_with (first | (go_at_call 42; refine (fields_9 _).mono ?_; rintro e wf ⟨rfl, hw⟩; rw [hw]; clear hw) | (go_at_call 43; with_reducible refine (HVp.out _).mono ?_; rintro e wp ⟨rfl, hbp⟩; replace hb := hb.trans (hbp.mono hb.size); replace hB := hB.below hbp hl; replace hl := hB.lt; replace b0 := hB.cell 0; replace b1 := hB.cell 1; replace b2 := hB.cell 2; replace b3 := hB.cell 3; replace b4 := hB.cell 4) | (go_at_call 43; with_reducible refine (HVd.out _).mono ?_; rintro e wd ⟨rfl, hbd⟩; replace hb := hb.trans (hbd.mono hb.size); replace hB := hB.below hbd hl; replace hl := hB.lt; replace b0 := hB.cell 0; replace b1 := hB.cell 1; replace b2 := hB.cell 2; replace b3 := hB.cell 3; replace b4 := hB.cell 4))
  go_ret
  exact ⟨_, rfl, ⟨fun _ => ⟨(show (1 : Int) ≤ 9 ∧ (9 : Int) ≤ 9 by decide), fun h => absurd h (show ¬ modeB 9 = true by decide), fun h => absurd rfl h, fun h => absurd h (show ¬ toB 9 = true by decide), fun _ => rfl, fun _ => rfl, fun _ => rfl, fun _ => rfl, fun h => absurd h (show ¬ (9 : Int) = 6 by decide)⟩, fun _ => rfl⟩, hb⟩
set_option maxRecDepth 100000 in
theorem chk_no (op : Int) (ho : op < 1 ∨ 9 < op) (p d : ByteArray) (md rf : Int) (w : World) : Calls Tryd.prog 35 #[.agg (Ins.cells ⟨op, p, d, md, rf⟩)] w (ChkR ⟨op, p, d, md, rf⟩ w) := by
  have hno : ¬ okIns ⟨op, p, d, md, rf⟩ := fun h => by
    obtain ⟨⟨h1, h2⟩, _⟩ := h
    simp only at h1 h2
    omega
  unfold Ins.cells
  have hB := Blk.new w 42 #[.int .i64 op, .string p, .string d, .int .i64 md, .int .i64 rf]
  have b0 := hB.cell 0; have b1 := hB.cell 1; have b2 := hB.cell 2; have b3 := hB.cell 3; have b4 := hB.cell 4
  have hl := hB.lt
  have hb := (Below.refl w.heap.size w).alloc (Nat.le_refl _) (.cells #[.int .i64 op, .string p, .string d, .int .i64 md, .int .i64 rf] 42)
  have HNo := Lib.hid hno
  clear hno
  have HF := Lib.hid (fun W => fields_no op ho W)
  clear ho
  go_enter Tryd.func35, Tryd.ntmps35
  go_wp2_with (go_at_call 42; refine (HF.out _).mono ?_; rintro e wf ⟨rfl, hw⟩; rw [hw]; clear hw)
  go_ret
  exact ⟨_, rfl, ⟨fun h => absurd h (by decide), fun h => absurd h HNo.out⟩, hb⟩
theorem chk_any (x : Ins) (hp : x.path.size ≤ 1000) (hd : x.dst.size ≤ 1000) (w : World) : Calls Tryd.prog 35 #[.agg x.cells] w (ChkR x w) := by
  obtain ⟨op, p, d, md, rf⟩ := x
  by_cases ho : op < 1 ∨ 9 < op
  · exact chk_no op ho p d md rf w
  have hc : op = 1 ∨ op = 2 ∨ op = 3 ∨ op = 4 ∨ op = 5 ∨ op = 6 ∨ op = 7 ∨ op = 8 ∨ op = 9 := by omega
  rcases hc with rfl | rfl | rfl | rfl | rfl | rfl | rfl | rfl | rfl
  · exact chk_1 p d md rf hp hd w
  · exact chk_2 p d md rf hp hd w
  · exact chk_3 p d md rf hp hd w
  · exact chk_4 p d md rf hp hd w
  · exact chk_5 p d md rf hp hd w
  · exact chk_6 p d md rf hp hd w
  · exact chk_7 p d md rf hp hd w
  · exact chk_8 p d md rf hp hd w
  · exact chk_9 p d md rf hp hd w
end Go.Proofs.YtgeiegjpnnbloaaDoor
