/- model.full. -/
import Derived.Test.YthmeffpickejkaaFirst2
namespace Go.Proofs.Ythmeffpickejkaa
open Go.RowKit

def fullE (M : PW) (c : Cmd) : Int :=
  if c.op = 4 ∨ c.op = 7 then (if filE M.nodes c.path = 0 then (if absE M.nodes c.dst = 0 then 31 else absE M.nodes c.dst) else filE M.nodes c.path)
  else if absE M.nodes c.path = 0 then 31 else absE M.nodes c.path
set_option maxRecDepth 100000 in
set_option maxHeartbeats 2000000 in
theorem full_1 (B0 wb : Nat) (M : PW) (s : Nat) (p q : ByteArray) (mode ref : Int) (hp : p.size ≤ 9223372036854775807) (hd : q.size ≤ 9223372036854775807) (hv : validL p.data.toList = true) (w : World) (h : WorldAt B0 w wb M s) :
    Calls Try.prog 63 #[.pointer (some ⟨wb, 0, none⟩), .agg #[.int .i64 1, .string p, .string q, .int .i64 mode, .int .i64 ref]] w (NumRes (fullE M ⟨1, p, q, mode, ref, hp, hd⟩) w) := by
  obtain ⟨E, hE⟩ : ∃ E, fullE M ⟨1, p, q, mode, ref, hp, hd⟩ = E := ⟨_, rfl⟩
  rw [hE]
  unfold fullE at hE
  rw [if_neg (by show ¬ ((1 : Int) = 4 ∨ (1 : Int) = 7); decide)] at hE
  simp only at hE
  have hA := h.keep (World.grownBy_alloc w (.cells #[.int .i64 1, .string p, .string q, .int .i64 mode, .int .i64 ref] 27) none)
  have hI := Blk.new w 27 #[.int .i64 1, .string p, .string q, .int .i64 mode, .int .i64 ref]
  have hb := (Below.refl w.heap.size w).alloc (Nat.le_refl _) (.cells #[.int .i64 1, .string p, .string q, .int .i64 mode, .int .i64 ref] 27)
  have HA := Lib.hid hA; clear hA h
  have HE := Lib.hid hE; clear hE
  obtain ⟨W, hW⟩ : ∃ W, W = w.alloc (.cells #[.int .i64 1, .string p, .string q, .int .i64 mode, .int .i64 ref] 27) := ⟨_, rfl⟩
  have hsz : w.heap.size < W.heap.size := by rw [hW]; simp
  go_enter Try.func63, Try.ntmps63
  go_upto_region 1 with (fail)
  rw [← hW] at HA hI hb ⊢
  clear hW
  have i0 := hI.cell 0
  have i1 := hI.cell 1
  have i2 := hI.cell 2
  have hil := hI.lt
  refine wp_region_ordB (none) [(0, true), (1, true), (2, true), (3, true)] (by kernel_rfl) (by kernel_rfl) fun hG0 => ?_
  repeat (first
    | (refine ord_skipB rfl (by rfl) ?_; simp only [Act.put, List.setIfInBounds_toArray, List.set_cons_zero, List.set_cons_succ])
    | (refine ord_qE rfl (by rfl) ?_; apply Exists.intro; refine ⟨fun w' hc' => ?_, ?_⟩; (focus (go_simp; (try go_bits); (try simp only [↓IntWalk.iteOmega]); with_reducible rfl)); simp only [Act.put, List.setIfInBounds_toArray, List.set_cons_zero, List.set_cons_succ]))
  refine ord_end ?_
  replace hI := hI.grown hG0 (by simp)
  replace HA := Lib.hid (HA.out.keep hG0)
  replace hb := hb.trans (below_grown hG0 (Nat.le_of_lt hsz) (fun g e => by cases e))
  go_upto_region 2 with (fail)
  obtain ⟨W2, hW2⟩ : ∃ W2, W2 = W.drew := ⟨_, rfl⟩
  rw [← hW2] at HA hI hb ⊢
  have hsz2 : w.heap.size < W2.heap.size := by rw [hW2]; exact hsz
  clear hW2 i0 i1 i2 hG0 hil
  have i0 := hI.cell 0
  have i1 := hI.cell 1
  have i2 := hI.cell 2
  obtain ⟨E3, hE3⟩ : ∃ E3, absE M.nodes p = E3 := ⟨_, rfl⟩
  have hK2 := fun w h => absent_any B0 wb M s p hp hv w h
  have hE2 := HE.out
  rw [hE3] at hK2 hE2
  have HK2 := Lib.hid hK2; clear hK2 hE3
  by_cases h3 : E3 = 0
  · subst h3
    rw [if_pos rfl] at hE2
    subst hE2
    go_wp2_with (go_at_call 86; refine (HK2.out _ HA.out).mono ?_; rintro e w2 ⟨rfl, hb2⟩)
    go_ret
    exact ⟨rfl, hb.trans (hb2.mono (by omega))⟩
  · rw [if_neg h3] at hE2
    subst hE2
    obtain ⟨e1, e2⟩ := ne_b h3
    have H3 := Lib.hid h3; clear h3
    go_wp2_with (go_at_call 86; refine (HK2.out _ HA.out).mono ?_; rintro e w2 ⟨rfl, hb2⟩)
    go_ret
    exact ⟨rfl, hb.trans (hb2.mono (by omega))⟩
set_option maxRecDepth 100000 in
set_option maxHeartbeats 2000000 in
theorem full_4 (B0 wb : Nat) (M : PW) (s : Nat) (p q : ByteArray) (mode ref : Int) (hp : p.size ≤ 9223372036854775807) (hd : q.size ≤ 9223372036854775807) (hv : validL p.data.toList = true) (hv2 : validL q.data.toList = true) (w : World) (h : WorldAt B0 w wb M s) :
    Calls Try.prog 63 #[.pointer (some ⟨wb, 0, none⟩), .agg #[.int .i64 4, .string p, .string q, .int .i64 mode, .int .i64 ref]] w (NumRes (fullE M ⟨4, p, q, mode, ref, hp, hd⟩) w) := by
  obtain ⟨E, hE⟩ : ∃ E, fullE M ⟨4, p, q, mode, ref, hp, hd⟩ = E := ⟨_, rfl⟩
  rw [hE]
  unfold fullE at hE
  rw [if_pos (by show ((4 : Int) = 4 ∨ (4 : Int) = 7); decide)] at hE
  simp only at hE
  have hA := h.keep (World.grownBy_alloc w (.cells #[.int .i64 4, .string p, .string q, .int .i64 mode, .int .i64 ref] 27) none)
  have hI := Blk.new w 27 #[.int .i64 4, .string p, .string q, .int .i64 mode, .int .i64 ref]
  have hb := (Below.refl w.heap.size w).alloc (Nat.le_refl _) (.cells #[.int .i64 4, .string p, .string q, .int .i64 mode, .int .i64 ref] 27)
  have HA := Lib.hid hA; clear hA h
  have HE := Lib.hid hE; clear hE
  obtain ⟨W, hW⟩ : ∃ W, W = w.alloc (.cells #[.int .i64 4, .string p, .string q, .int .i64 mode, .int .i64 ref] 27) := ⟨_, rfl⟩
  have hsz : w.heap.size < W.heap.size := by rw [hW]; simp
  go_enter Try.func63, Try.ntmps63
  go_upto_region 1 with (fail)
  rw [← hW] at HA hI hb ⊢
  clear hW
  have i0 := hI.cell 0
  have i1 := hI.cell 1
  have i2 := hI.cell 2
  have hil := hI.lt
  refine wp_region_ordB (none) [(0, true), (1, true), (2, true), (3, true)] (by kernel_rfl) (by kernel_rfl) fun hG0 => ?_
  repeat (first
    | (refine ord_skipB rfl (by rfl) ?_; simp only [Act.put, List.setIfInBounds_toArray, List.set_cons_zero, List.set_cons_succ])
    | (refine ord_qE rfl (by rfl) ?_; apply Exists.intro; refine ⟨fun w' hc' => ?_, ?_⟩; (focus (go_simp; (try go_bits); (try simp only [↓IntWalk.iteOmega]); with_reducible rfl)); simp only [Act.put, List.setIfInBounds_toArray, List.set_cons_zero, List.set_cons_succ]))
  refine ord_end ?_
  replace hI := hI.grown hG0 (by simp)
  replace HA := Lib.hid (HA.out.keep hG0)
  replace hb := hb.trans (below_grown hG0 (Nat.le_of_lt hsz) (fun g e => by cases e))
  go_upto_region 2 with (fail)
  obtain ⟨W2, hW2⟩ : ∃ W2, W2 = W.drew := ⟨_, rfl⟩
  rw [← hW2] at HA hI hb ⊢
  have hsz2 : w.heap.size < W2.heap.size := by rw [hW2]; exact hsz
  clear hW2 i0 i1 i2 hG0 hil
  have i0 := hI.cell 0
  have i1 := hI.cell 1
  have i2 := hI.cell 2
  obtain ⟨E1, hE1⟩ : ∃ E1, filE M.nodes p = E1 := ⟨_, rfl⟩
  have hK1 := fun w h => fileAt_any B0 wb M s p hp hv w h
  rw [hE1] at hK1
  have HK1 := Lib.hid hK1; clear hK1
  have hE2 := HE.out
  rw [hE1] at hE2
  clear hE1
  by_cases h0 : E1 = 0
  · subst h0
    rw [if_pos rfl] at hE2
    obtain ⟨E3, hE3⟩ : ∃ E3, absE M.nodes q = E3 := ⟨_, rfl⟩
    have hK2 := fun w h => absent_any B0 wb M s q hd hv2 w h
    rw [hE3] at hK2 hE2
    have HK2 := Lib.hid hK2; clear hK2 hE3
    have HE2 := Lib.hid hE2; clear hE2
    go_upto_region 5 with (go_at_call 85; refine (HK1.out _ HA.out).mono ?_; rintro e w1 ⟨rfl, hb1⟩; have j2 := (hI.below hb1 hI.lt).cell 2)
    have HA1 := Lib.hid (HA.out.keep (grown_below hb1 (Nat.le_refl _)))
    have hz := hb1.size
    by_cases h3 : E3 = 0
    · subst h3
      have hfin : E = 31 := by rw [← HE2.out, if_pos rfl]
      subst hfin
      go_wp2_with (go_at_call 86; refine (HK2.out _ HA1.out).mono ?_; rintro e w2 ⟨rfl, hb2⟩)
      go_ret
      exact ⟨rfl, (hb.trans (hb1.mono (by omega))).trans (hb2.mono (by omega))⟩
    · have hfin : E = E3 := by rw [← HE2.out, if_neg h3]
      subst hfin
      obtain ⟨e1, e2⟩ := ne_b h3
      have H3 := Lib.hid h3; clear h3
      go_wp2_with (go_at_call 86; refine (HK2.out _ HA1.out).mono ?_; rintro e w2 ⟨rfl, hb2⟩)
      go_ret
      exact ⟨rfl, (hb.trans (hb1.mono (by omega))).trans (hb2.mono (by omega))⟩
  · rw [if_neg h0] at hE2
    subst hE2
    obtain ⟨e1, e2⟩ := ne_b h0
    have H0 := Lib.hid h0; clear h0
    go_wp2_with (go_at_call 85; refine (HK1.out _ HA.out).mono ?_; rintro e w1 ⟨rfl, hb1⟩; have j2 := (hI.below hb1 hI.lt).cell 2)
    go_ret
    exact ⟨rfl, hb.trans (hb1.mono (by omega))⟩
set_option maxRecDepth 100000 in
set_option maxHeartbeats 2000000 in
theorem full_6 (B0 wb : Nat) (M : PW) (s : Nat) (p q : ByteArray) (mode ref : Int) (hp : p.size ≤ 9223372036854775807) (hd : q.size ≤ 9223372036854775807) (hv : validL p.data.toList = true) (w : World) (h : WorldAt B0 w wb M s) :
    Calls Try.prog 63 #[.pointer (some ⟨wb, 0, none⟩), .agg #[.int .i64 6, .string p, .string q, .int .i64 mode, .int .i64 ref]] w (NumRes (fullE M ⟨6, p, q, mode, ref, hp, hd⟩) w) := by
  obtain ⟨E, hE⟩ : ∃ E, fullE M ⟨6, p, q, mode, ref, hp, hd⟩ = E := ⟨_, rfl⟩
  rw [hE]
  unfold fullE at hE
  rw [if_neg (by show ¬ ((6 : Int) = 4 ∨ (6 : Int) = 7); decide)] at hE
  simp only at hE
  have hA := h.keep (World.grownBy_alloc w (.cells #[.int .i64 6, .string p, .string q, .int .i64 mode, .int .i64 ref] 27) none)
  have hI := Blk.new w 27 #[.int .i64 6, .string p, .string q, .int .i64 mode, .int .i64 ref]
  have hb := (Below.refl w.heap.size w).alloc (Nat.le_refl _) (.cells #[.int .i64 6, .string p, .string q, .int .i64 mode, .int .i64 ref] 27)
  have HA := Lib.hid hA; clear hA h
  have HE := Lib.hid hE; clear hE
  obtain ⟨W, hW⟩ : ∃ W, W = w.alloc (.cells #[.int .i64 6, .string p, .string q, .int .i64 mode, .int .i64 ref] 27) := ⟨_, rfl⟩
  have hsz : w.heap.size < W.heap.size := by rw [hW]; simp
  go_enter Try.func63, Try.ntmps63
  go_upto_region 1 with (fail)
  rw [← hW] at HA hI hb ⊢
  clear hW
  have i0 := hI.cell 0
  have i1 := hI.cell 1
  have i2 := hI.cell 2
  have hil := hI.lt
  refine wp_region_ordB (none) [(0, true), (1, true), (2, true), (3, true)] (by kernel_rfl) (by kernel_rfl) fun hG0 => ?_
  repeat (first
    | (refine ord_skipB rfl (by rfl) ?_; simp only [Act.put, List.setIfInBounds_toArray, List.set_cons_zero, List.set_cons_succ])
    | (refine ord_qE rfl (by rfl) ?_; apply Exists.intro; refine ⟨fun w' hc' => ?_, ?_⟩; (focus (go_simp; (try go_bits); (try simp only [↓IntWalk.iteOmega]); with_reducible rfl)); simp only [Act.put, List.setIfInBounds_toArray, List.set_cons_zero, List.set_cons_succ]))
  refine ord_end ?_
  replace hI := hI.grown hG0 (by simp)
  replace HA := Lib.hid (HA.out.keep hG0)
  replace hb := hb.trans (below_grown hG0 (Nat.le_of_lt hsz) (fun g e => by cases e))
  go_upto_region 2 with (fail)
  obtain ⟨W2, hW2⟩ : ∃ W2, W2 = W.drew := ⟨_, rfl⟩
  rw [← hW2] at HA hI hb ⊢
  have hsz2 : w.heap.size < W2.heap.size := by rw [hW2]; exact hsz
  clear hW2 i0 i1 i2 hG0 hil
  have i0 := hI.cell 0
  have i1 := hI.cell 1
  have i2 := hI.cell 2
  obtain ⟨E3, hE3⟩ : ∃ E3, absE M.nodes p = E3 := ⟨_, rfl⟩
  have hK2 := fun w h => absent_any B0 wb M s p hp hv w h
  have hE2 := HE.out
  rw [hE3] at hK2 hE2
  have HK2 := Lib.hid hK2; clear hK2 hE3
  by_cases h3 : E3 = 0
  · subst h3
    rw [if_pos rfl] at hE2
    subst hE2
    go_wp2_with (go_at_call 86; refine (HK2.out _ HA.out).mono ?_; rintro e w2 ⟨rfl, hb2⟩)
    go_ret
    exact ⟨rfl, hb.trans (hb2.mono (by omega))⟩
  · rw [if_neg h3] at hE2
    subst hE2
    obtain ⟨e1, e2⟩ := ne_b h3
    have H3 := Lib.hid h3; clear h3
    go_wp2_with (go_at_call 86; refine (HK2.out _ HA.out).mono ?_; rintro e w2 ⟨rfl, hb2⟩)
    go_ret
    exact ⟨rfl, hb.trans (hb2.mono (by omega))⟩
set_option maxRecDepth 100000 in
set_option maxHeartbeats 2000000 in
theorem full_7 (B0 wb : Nat) (M : PW) (s : Nat) (p q : ByteArray) (mode ref : Int) (hp : p.size ≤ 9223372036854775807) (hd : q.size ≤ 9223372036854775807) (hv : validL p.data.toList = true) (hv2 : validL q.data.toList = true) (w : World) (h : WorldAt B0 w wb M s) :
    Calls Try.prog 63 #[.pointer (some ⟨wb, 0, none⟩), .agg #[.int .i64 7, .string p, .string q, .int .i64 mode, .int .i64 ref]] w (NumRes (fullE M ⟨7, p, q, mode, ref, hp, hd⟩) w) := by
  obtain ⟨E, hE⟩ : ∃ E, fullE M ⟨7, p, q, mode, ref, hp, hd⟩ = E := ⟨_, rfl⟩
  rw [hE]
  unfold fullE at hE
  rw [if_pos (by show ((7 : Int) = 4 ∨ (7 : Int) = 7); decide)] at hE
  simp only at hE
  have hA := h.keep (World.grownBy_alloc w (.cells #[.int .i64 7, .string p, .string q, .int .i64 mode, .int .i64 ref] 27) none)
  have hI := Blk.new w 27 #[.int .i64 7, .string p, .string q, .int .i64 mode, .int .i64 ref]
  have hb := (Below.refl w.heap.size w).alloc (Nat.le_refl _) (.cells #[.int .i64 7, .string p, .string q, .int .i64 mode, .int .i64 ref] 27)
  have HA := Lib.hid hA; clear hA h
  have HE := Lib.hid hE; clear hE
  obtain ⟨W, hW⟩ : ∃ W, W = w.alloc (.cells #[.int .i64 7, .string p, .string q, .int .i64 mode, .int .i64 ref] 27) := ⟨_, rfl⟩
  have hsz : w.heap.size < W.heap.size := by rw [hW]; simp
  go_enter Try.func63, Try.ntmps63
  go_upto_region 1 with (fail)
  rw [← hW] at HA hI hb ⊢
  clear hW
  have i0 := hI.cell 0
  have i1 := hI.cell 1
  have i2 := hI.cell 2
  have hil := hI.lt
  refine wp_region_ordB (none) [(0, true), (1, true), (2, true), (3, true)] (by kernel_rfl) (by kernel_rfl) fun hG0 => ?_
  repeat (first
    | (refine ord_skipB rfl (by rfl) ?_; simp only [Act.put, List.setIfInBounds_toArray, List.set_cons_zero, List.set_cons_succ])
    | (refine ord_qE rfl (by rfl) ?_; apply Exists.intro; refine ⟨fun w' hc' => ?_, ?_⟩; (focus (go_simp; (try go_bits); (try simp only [↓IntWalk.iteOmega]); with_reducible rfl)); simp only [Act.put, List.setIfInBounds_toArray, List.set_cons_zero, List.set_cons_succ]))
  refine ord_end ?_
  replace hI := hI.grown hG0 (by simp)
  replace HA := Lib.hid (HA.out.keep hG0)
  replace hb := hb.trans (below_grown hG0 (Nat.le_of_lt hsz) (fun g e => by cases e))
  go_upto_region 2 with (fail)
  obtain ⟨W2, hW2⟩ : ∃ W2, W2 = W.drew := ⟨_, rfl⟩
  rw [← hW2] at HA hI hb ⊢
  have hsz2 : w.heap.size < W2.heap.size := by rw [hW2]; exact hsz
  clear hW2 i0 i1 i2 hG0 hil
  have i0 := hI.cell 0
  have i1 := hI.cell 1
  have i2 := hI.cell 2
  obtain ⟨E1, hE1⟩ : ∃ E1, filE M.nodes p = E1 := ⟨_, rfl⟩
  have hK1 := fun w h => fileAt_any B0 wb M s p hp hv w h
  rw [hE1] at hK1
  have HK1 := Lib.hid hK1; clear hK1
  have hE2 := HE.out
  rw [hE1] at hE2
  clear hE1
  by_cases h0 : E1 = 0
  · subst h0
    rw [if_pos rfl] at hE2
    obtain ⟨E3, hE3⟩ : ∃ E3, absE M.nodes q = E3 := ⟨_, rfl⟩
    have hK2 := fun w h => absent_any B0 wb M s q hd hv2 w h
    rw [hE3] at hK2 hE2
    have HK2 := Lib.hid hK2; clear hK2 hE3
    have HE2 := Lib.hid hE2; clear hE2
    go_upto_region 5 with (go_at_call 85; refine (HK1.out _ HA.out).mono ?_; rintro e w1 ⟨rfl, hb1⟩; have j2 := (hI.below hb1 hI.lt).cell 2)
    have HA1 := Lib.hid (HA.out.keep (grown_below hb1 (Nat.le_refl _)))
    have hz := hb1.size
    by_cases h3 : E3 = 0
    · subst h3
      have hfin : E = 31 := by rw [← HE2.out, if_pos rfl]
      subst hfin
      go_wp2_with (go_at_call 86; refine (HK2.out _ HA1.out).mono ?_; rintro e w2 ⟨rfl, hb2⟩)
      go_ret
      exact ⟨rfl, (hb.trans (hb1.mono (by omega))).trans (hb2.mono (by omega))⟩
    · have hfin : E = E3 := by rw [← HE2.out, if_neg h3]
      subst hfin
      obtain ⟨e1, e2⟩ := ne_b h3
      have H3 := Lib.hid h3; clear h3
      go_wp2_with (go_at_call 86; refine (HK2.out _ HA1.out).mono ?_; rintro e w2 ⟨rfl, hb2⟩)
      go_ret
      exact ⟨rfl, (hb.trans (hb1.mono (by omega))).trans (hb2.mono (by omega))⟩
  · rw [if_neg h0] at hE2
    subst hE2
    obtain ⟨e1, e2⟩ := ne_b h0
    have H0 := Lib.hid h0; clear h0
    go_wp2_with (go_at_call 85; refine (HK1.out _ HA.out).mono ?_; rintro e w1 ⟨rfl, hb1⟩; have j2 := (hI.below hb1 hI.lt).cell 2)
    go_ret
    exact ⟨rfl, hb.trans (hb1.mono (by omega))⟩
end Go.Proofs.Ythmeffpickejkaa
