/- model.full. model.do: an instruction is done, or refused. -/
import Derived.Test.YtanaccoelifcpaaFirst2

namespace Go.Proofs.Ytanaccoelifcpaa
open Go.RowKit

def fullE (M : PW) (c : Cmd) : Int :=
  if c.op = 4 ∨ c.op = 7 then (if filE M.nodes c.path = 0 then (if absE M.nodes c.dst = 0 then 31 else absE M.nodes c.dst) else filE M.nodes c.path)
  else if absE M.nodes c.path = 0 then 31 else absE M.nodes c.path
set_option maxRecDepth 100000 in
set_option maxHeartbeats 2000000 in
theorem full_1 (B0 wb : Nat) (M : PW) (s : Nat) (p q : ByteArray) (mode ref : Int) (hp : p.size ≤ 9223372036854775807) (hd : q.size ≤ 9223372036854775807) (hv : validL p.data.toList = true) (w : World) (h : WorldAt B0 w wb M s) :
    Calls Try.prog 42 #[.pointer (some ⟨wb, 0, none⟩), .agg #[.int .i64 1, .string p, .string q, .int .i64 mode, .int .i64 ref]] w (NumRes (fullE M ⟨1, p, q, mode, ref, hp, hd⟩) w) := by
  obtain ⟨E, hE⟩ : ∃ E, fullE M ⟨1, p, q, mode, ref, hp, hd⟩ = E := ⟨_, rfl⟩
  rw [hE]
  unfold fullE at hE
  rw [if_neg (by show ¬ ((1 : Int) = 4 ∨ (1 : Int) = 7); decide)] at hE
  simp only at hE
  have hA := h.keep (World.grownBy_alloc w (.cells #[.int .i64 1, .string p, .string q, .int .i64 mode, .int .i64 ref] 44) none)
  have hI := Blk.new w 44 #[.int .i64 1, .string p, .string q, .int .i64 mode, .int .i64 ref]
  have hb := (Below.refl w.heap.size w).alloc (Nat.le_refl _) (.cells #[.int .i64 1, .string p, .string q, .int .i64 mode, .int .i64 ref] 44)
  have HA := Lib.hid hA; clear hA h
  have HE := Lib.hid hE; clear hE
  obtain ⟨W, hW⟩ : ∃ W, W = w.alloc (.cells #[.int .i64 1, .string p, .string q, .int .i64 mode, .int .i64 ref] 44) := ⟨_, rfl⟩
  have hsz : w.heap.size < W.heap.size := by rw [hW]; simp
  go_enter Try.func42, Try.ntmps42
  go_upto_region 1 with (fail)
  rw [← hW] at HA hI hb ⊢
  clear hW
  have i0 := hI.cell 0
  have i1 := hI.cell 1
  have i2 := hI.cell 2
  have hil := hI.lt
  refine wp_region_ordB (none) [(0, true), (1, true), (2, true), (3, true)] (by kernel_rfl) (by kernel_rfl) fun hG0 => ?_
  repeat (first
    | (refine ord_skipB rfl (by rfl) ?_; simp only [Act.put, List.setIfInBounds_toArray, List.set_cons_zero, List.set_cons_succ])
    | (refine ord_qE rfl (by rfl) ?_; apply Exists.intro; refine ⟨fun w' hc' => ?_, ?_⟩; (focus (go_simp; (try go_bits); (try simp only [↓IntWalk.iteOmega]); with_reducible rfl)); simp only [Act.put, List.setIfInBounds_toArray, List.set_cons_zero, List.set_cons_succ]))
  refine ord_end ?_
  replace hI := hI.grown hG0 (by simp)
  replace HA := Lib.hid (HA.out.keep hG0)
  replace hb := hb.trans (below_grown hG0 (Nat.le_of_lt hsz) (fun g e => by cases e))
  go_upto_region 2 with (fail)
  obtain ⟨W2, hW2⟩ : ∃ W2, W2 = W.drew := ⟨_, rfl⟩
  rw [← hW2] at HA hI hb ⊢
  have hsz2 : w.heap.size < W2.heap.size := by rw [hW2]; exact hsz
  clear hW2 i0 i1 i2 hG0 hil
  have i0 := hI.cell 0
  have i1 := hI.cell 1
  have i2 := hI.cell 2
  obtain ⟨E3, hE3⟩ : ∃ E3, absE M.nodes p = E3 := ⟨_, rfl⟩
  have hK2 := fun w h => absent_any B0 wb M s p hp hv w h
  have hE2 := HE.out
  rw [hE3] at hK2 hE2
  have HK2 := Lib.hid hK2; clear hK2 hE3
  by_cases h3 : E3 = 0
  · subst h3
    rw [if_pos rfl] at hE2
    subst hE2
    go_wp2_with (go_at_call 58; refine (HK2.out _ HA.out).mono ?_; rintro e w2 ⟨rfl, hb2⟩)
    go_ret
    exact ⟨rfl, hb.trans (hb2.mono (by omega))⟩
  · rw [if_neg h3] at hE2
    subst hE2
    obtain ⟨e1, e2⟩ := ne_b h3
    have H3 := Lib.hid h3; clear h3
    go_wp2_with (go_at_call 58; refine (HK2.out _ HA.out).mono ?_; rintro e w2 ⟨rfl, hb2⟩)
    go_ret
    exact ⟨rfl, hb.trans (hb2.mono (by omega))⟩
set_option maxRecDepth 100000 in
set_option maxHeartbeats 2000000 in
theorem full_4 (B0 wb : Nat) (M : PW) (s : Nat) (p q : ByteArray) (mode ref : Int) (hp : p.size ≤ 9223372036854775807) (hd : q.size ≤ 9223372036854775807) (hv : validL p.data.toList = true) (hv2 : validL q.data.toList = true) (w : World) (h : WorldAt B0 w wb M s) :
    Calls Try.prog 42 #[.pointer (some ⟨wb, 0, none⟩), .agg #[.int .i64 4, .string p, .string q, .int .i64 mode, .int .i64 ref]] w (NumRes (fullE M ⟨4, p, q, mode, ref, hp, hd⟩) w) := by
  obtain ⟨E, hE⟩ : ∃ E, fullE M ⟨4, p, q, mode, ref, hp, hd⟩ = E := ⟨_, rfl⟩
  rw [hE]
  unfold fullE at hE
  rw [if_pos (by show ((4 : Int) = 4 ∨ (4 : Int) = 7); decide)] at hE
  simp only at hE
  have hA := h.keep (World.grownBy_alloc w (.cells #[.int .i64 4, .string p, .string q, .int .i64 mode, .int .i64 ref] 44) none)
  have hI := Blk.new w 44 #[.int .i64 4, .string p, .string q, .int .i64 mode, .int .i64 ref]
  have hb := (Below.refl w.heap.size w).alloc (Nat.le_refl _) (.cells #[.int .i64 4, .string p, .string q, .int .i64 mode, .int .i64 ref] 44)
  have HA := Lib.hid hA; clear hA h
  have HE := Lib.hid hE; clear hE
  obtain ⟨W, hW⟩ : ∃ W, W = w.alloc (.cells #[.int .i64 4, .string p, .string q, .int .i64 mode, .int .i64 ref] 44) := ⟨_, rfl⟩
  have hsz : w.heap.size < W.heap.size := by rw [hW]; simp
  go_enter Try.func42, Try.ntmps42
  go_upto_region 1 with (fail)
  rw [← hW] at HA hI hb ⊢
  clear hW
  have i0 := hI.cell 0
  have i1 := hI.cell 1
  have i2 := hI.cell 2
  have hil := hI.lt
  refine wp_region_ordB (none) [(0, true), (1, true), (2, true), (3, true)] (by kernel_rfl) (by kernel_rfl) fun hG0 => ?_
  repeat (first
    | (refine ord_skipB rfl (by rfl) ?_; simp only [Act.put, List.setIfInBounds_toArray, List.set_cons_zero, List.set_cons_succ])
    | (refine ord_qE rfl (by rfl) ?_; apply Exists.intro; refine ⟨fun w' hc' => ?_, ?_⟩; (focus (go_simp; (try go_bits); (try simp only [↓IntWalk.iteOmega]); with_reducible rfl)); simp only [Act.put, List.setIfInBounds_toArray, List.set_cons_zero, List.set_cons_succ]))
  refine ord_end ?_
  replace hI := hI.grown hG0 (by simp)
  replace HA := Lib.hid (HA.out.keep hG0)
  replace hb := hb.trans (below_grown hG0 (Nat.le_of_lt hsz) (fun g e => by cases e))
  go_upto_region 2 with (fail)
  obtain ⟨W2, hW2⟩ : ∃ W2, W2 = W.drew := ⟨_, rfl⟩
  rw [← hW2] at HA hI hb ⊢
  have hsz2 : w.heap.size < W2.heap.size := by rw [hW2]; exact hsz
  clear hW2 i0 i1 i2 hG0 hil
  have i0 := hI.cell 0
  have i1 := hI.cell 1
  have i2 := hI.cell 2
  obtain ⟨E1, hE1⟩ : ∃ E1, filE M.nodes p = E1 := ⟨_, rfl⟩
  have hK1 := fun w h => fileAt_any B0 wb M s p hp hv w h
  rw [hE1] at hK1
  have HK1 := Lib.hid hK1; clear hK1
  have hE2 := HE.out
  rw [hE1] at hE2
  clear hE1
  by_cases h0 : E1 = 0
  · subst h0
    rw [if_pos rfl] at hE2
    obtain ⟨E3, hE3⟩ : ∃ E3, absE M.nodes q = E3 := ⟨_, rfl⟩
    have hK2 := fun w h => absent_any B0 wb M s q hd hv2 w h
    rw [hE3] at hK2 hE2
    have HK2 := Lib.hid hK2; clear hK2 hE3
    have HE2 := Lib.hid hE2; clear hE2
    go_upto_region 5 with (go_at_call 57; refine (HK1.out _ HA.out).mono ?_; rintro e w1 ⟨rfl, hb1⟩; have j2 := (hI.below hb1 hI.lt).cell 2)
    have HA1 := Lib.hid (HA.out.keep (grown_below hb1 (Nat.le_refl _)))
    have hz := hb1.size
    by_cases h3 : E3 = 0
    · subst h3
      have hfin : E = 31 := by rw [← HE2.out, if_pos rfl]
      subst hfin
      go_wp2_with (go_at_call 58; refine (HK2.out _ HA1.out).mono ?_; rintro e w2 ⟨rfl, hb2⟩)
      go_ret
      exact ⟨rfl, (hb.trans (hb1.mono (by omega))).trans (hb2.mono (by omega))⟩
    · have hfin : E = E3 := by rw [← HE2.out, if_neg h3]
      subst hfin
      obtain ⟨e1, e2⟩ := ne_b h3
      have H3 := Lib.hid h3; clear h3
      go_wp2_with (go_at_call 58; refine (HK2.out _ HA1.out).mono ?_; rintro e w2 ⟨rfl, hb2⟩)
      go_ret
      exact ⟨rfl, (hb.trans (hb1.mono (by omega))).trans (hb2.mono (by omega))⟩
  · rw [if_neg h0] at hE2
    subst hE2
    obtain ⟨e1, e2⟩ := ne_b h0
    have H0 := Lib.hid h0; clear h0
    go_wp2_with (go_at_call 57; refine (HK1.out _ HA.out).mono ?_; rintro e w1 ⟨rfl, hb1⟩; have j2 := (hI.below hb1 hI.lt).cell 2)
    go_ret
    exact ⟨rfl, hb.trans (hb1.mono (by omega))⟩
set_option maxRecDepth 100000 in
set_option maxHeartbeats 2000000 in
theorem full_6 (B0 wb : Nat) (M : PW) (s : Nat) (p q : ByteArray) (mode ref : Int) (hp : p.size ≤ 9223372036854775807) (hd : q.size ≤ 9223372036854775807) (hv : validL p.data.toList = true) (w : World) (h : WorldAt B0 w wb M s) :
    Calls Try.prog 42 #[.pointer (some ⟨wb, 0, none⟩), .agg #[.int .i64 6, .string p, .string q, .int .i64 mode, .int .i64 ref]] w (NumRes (fullE M ⟨6, p, q, mode, ref, hp, hd⟩) w) := by
  obtain ⟨E, hE⟩ : ∃ E, fullE M ⟨6, p, q, mode, ref, hp, hd⟩ = E := ⟨_, rfl⟩
  rw [hE]
  unfold fullE at hE
  rw [if_neg (by show ¬ ((6 : Int) = 4 ∨ (6 : Int) = 7); decide)] at hE
  simp only at hE
  have hA := h.keep (World.grownBy_alloc w (.cells #[.int .i64 6, .string p, .string q, .int .i64 mode, .int .i64 ref] 44) none)
  have hI := Blk.new w 44 #[.int .i64 6, .string p, .string q, .int .i64 mode, .int .i64 ref]
  have hb := (Below.refl w.heap.size w).alloc (Nat.le_refl _) (.cells #[.int .i64 6, .string p, .string q, .int .i64 mode, .int .i64 ref] 44)
  have HA := Lib.hid hA; clear hA h
  have HE := Lib.hid hE; clear hE
  obtain ⟨W, hW⟩ : ∃ W, W = w.alloc (.cells #[.int .i64 6, .string p, .string q, .int .i64 mode, .int .i64 ref] 44) := ⟨_, rfl⟩
  have hsz : w.heap.size < W.heap.size := by rw [hW]; simp
  go_enter Try.func42, Try.ntmps42
  go_upto_region 1 with (fail)
  rw [← hW] at HA hI hb ⊢
  clear hW
  have i0 := hI.cell 0
  have i1 := hI.cell 1
  have i2 := hI.cell 2
  have hil := hI.lt
  refine wp_region_ordB (none) [(0, true), (1, true), (2, true), (3, true)] (by kernel_rfl) (by kernel_rfl) fun hG0 => ?_
  repeat (first
    | (refine ord_skipB rfl (by rfl) ?_; simp only [Act.put, List.setIfInBounds_toArray, List.set_cons_zero, List.set_cons_succ])
    | (refine ord_qE rfl (by rfl) ?_; apply Exists.intro; refine ⟨fun w' hc' => ?_, ?_⟩; (focus (go_simp; (try go_bits); (try simp only [↓IntWalk.iteOmega]); with_reducible rfl)); simp only [Act.put, List.setIfInBounds_toArray, List.set_cons_zero, List.set_cons_succ]))
  refine ord_end ?_
  replace hI := hI.grown hG0 (by simp)
  replace HA := Lib.hid (HA.out.keep hG0)
  replace hb := hb.trans (below_grown hG0 (Nat.le_of_lt hsz) (fun g e => by cases e))
  go_upto_region 2 with (fail)
  obtain ⟨W2, hW2⟩ : ∃ W2, W2 = W.drew := ⟨_, rfl⟩
  rw [← hW2] at HA hI hb ⊢
  have hsz2 : w.heap.size < W2.heap.size := by rw [hW2]; exact hsz
  clear hW2 i0 i1 i2 hG0 hil
  have i0 := hI.cell 0
  have i1 := hI.cell 1
  have i2 := hI.cell 2
  obtain ⟨E3, hE3⟩ : ∃ E3, absE M.nodes p = E3 := ⟨_, rfl⟩
  have hK2 := fun w h => absent_any B0 wb M s p hp hv w h
  have hE2 := HE.out
  rw [hE3] at hK2 hE2
  have HK2 := Lib.hid hK2; clear hK2 hE3
  by_cases h3 : E3 = 0
  · subst h3
    rw [if_pos rfl] at hE2
    subst hE2
    go_wp2_with (go_at_call 58; refine (HK2.out _ HA.out).mono ?_; rintro e w2 ⟨rfl, hb2⟩)
    go_ret
    exact ⟨rfl, hb.trans (hb2.mono (by omega))⟩
  · rw [if_neg h3] at hE2
    subst hE2
    obtain ⟨e1, e2⟩ := ne_b h3
    have H3 := Lib.hid h3; clear h3
    go_wp2_with (go_at_call 58; refine (HK2.out _ HA.out).mono ?_; rintro e w2 ⟨rfl, hb2⟩)
    go_ret
    exact ⟨rfl, hb.trans (hb2.mono (by omega))⟩
set_option maxRecDepth 100000 in
set_option maxHeartbeats 2000000 in
theorem full_7 (B0 wb : Nat) (M : PW) (s : Nat) (p q : ByteArray) (mode ref : Int) (hp : p.size ≤ 9223372036854775807) (hd : q.size ≤ 9223372036854775807) (hv : validL p.data.toList = true) (hv2 : validL q.data.toList = true) (w : World) (h : WorldAt B0 w wb M s) :
    Calls Try.prog 42 #[.pointer (some ⟨wb, 0, none⟩), .agg #[.int .i64 7, .string p, .string q, .int .i64 mode, .int .i64 ref]] w (NumRes (fullE M ⟨7, p, q, mode, ref, hp, hd⟩) w) := by
  obtain ⟨E, hE⟩ : ∃ E, fullE M ⟨7, p, q, mode, ref, hp, hd⟩ = E := ⟨_, rfl⟩
  rw [hE]
  unfold fullE at hE
  rw [if_pos (by show ((7 : Int) = 4 ∨ (7 : Int) = 7); decide)] at hE
  simp only at hE
  have hA := h.keep (World.grownBy_alloc w (.cells #[.int .i64 7, .string p, .string q, .int .i64 mode, .int .i64 ref] 44) none)
  have hI := Blk.new w 44 #[.int .i64 7, .string p, .string q, .int .i64 mode, .int .i64 ref]
  have hb := (Below.refl w.heap.size w).alloc (Nat.le_refl _) (.cells #[.int .i64 7, .string p, .string q, .int .i64 mode, .int .i64 ref] 44)
  have HA := Lib.hid hA; clear hA h
  have HE := Lib.hid hE; clear hE
  obtain ⟨W, hW⟩ : ∃ W, W = w.alloc (.cells #[.int .i64 7, .string p, .string q, .int .i64 mode, .int .i64 ref] 44) := ⟨_, rfl⟩
  have hsz : w.heap.size < W.heap.size := by rw [hW]; simp
  go_enter Try.func42, Try.ntmps42
  go_upto_region 1 with (fail)
  rw [← hW] at HA hI hb ⊢
  clear hW
  have i0 := hI.cell 0
  have i1 := hI.cell 1
  have i2 := hI.cell 2
  have hil := hI.lt
  refine wp_region_ordB (none) [(0, true), (1, true), (2, true), (3, true)] (by kernel_rfl) (by kernel_rfl) fun hG0 => ?_
  repeat (first
    | (refine ord_skipB rfl (by rfl) ?_; simp only [Act.put, List.setIfInBounds_toArray, List.set_cons_zero, List.set_cons_succ])
    | (refine ord_qE rfl (by rfl) ?_; apply Exists.intro; refine ⟨fun w' hc' => ?_, ?_⟩; (focus (go_simp; (try go_bits); (try simp only [↓IntWalk.iteOmega]); with_reducible rfl)); simp only [Act.put, List.setIfInBounds_toArray, List.set_cons_zero, List.set_cons_succ]))
  refine ord_end ?_
  replace hI := hI.grown hG0 (by simp)
  replace HA := Lib.hid (HA.out.keep hG0)
  replace hb := hb.trans (below_grown hG0 (Nat.le_of_lt hsz) (fun g e => by cases e))
  go_upto_region 2 with (fail)
  obtain ⟨W2, hW2⟩ : ∃ W2, W2 = W.drew := ⟨_, rfl⟩
  rw [← hW2] at HA hI hb ⊢
  have hsz2 : w.heap.size < W2.heap.size := by rw [hW2]; exact hsz
  clear hW2 i0 i1 i2 hG0 hil
  have i0 := hI.cell 0
  have i1 := hI.cell 1
  have i2 := hI.cell 2
  obtain ⟨E1, hE1⟩ : ∃ E1, filE M.nodes p = E1 := ⟨_, rfl⟩
  have hK1 := fun w h => fileAt_any B0 wb M s p hp hv w h
  rw [hE1] at hK1
  have HK1 := Lib.hid hK1; clear hK1
  have hE2 := HE.out
  rw [hE1] at hE2
  clear hE1
  by_cases h0 : E1 = 0
  · subst h0
    rw [if_pos rfl] at hE2
    obtain ⟨E3, hE3⟩ : ∃ E3, absE M.nodes q = E3 := ⟨_, rfl⟩
    have hK2 := fun w h => absent_any B0 wb M s q hd hv2 w h
    rw [hE3] at hK2 hE2
    have HK2 := Lib.hid hK2; clear hK2 hE3
    have HE2 := Lib.hid hE2; clear hE2
    go_upto_region 5 with (go_at_call 57; refine (HK1.out _ HA.out).mono ?_; rintro e w1 ⟨rfl, hb1⟩; have j2 := (hI.below hb1 hI.lt).cell 2)
    have HA1 := Lib.hid (HA.out.keep (grown_below hb1 (Nat.le_refl _)))
    have hz := hb1.size
    by_cases h3 : E3 = 0
    · subst h3
      have hfin : E = 31 := by rw [← HE2.out, if_pos rfl]
      subst hfin
      go_wp2_with (go_at_call 58; refine (HK2.out _ HA1.out).mono ?_; rintro e w2 ⟨rfl, hb2⟩)
      go_ret
      exact ⟨rfl, (hb.trans (hb1.mono (by omega))).trans (hb2.mono (by omega))⟩
    · have hfin : E = E3 := by rw [← HE2.out, if_neg h3]
      subst hfin
      obtain ⟨e1, e2⟩ := ne_b h3
      have H3 := Lib.hid h3; clear h3
      go_wp2_with (go_at_call 58; refine (HK2.out _ HA1.out).mono ?_; rintro e w2 ⟨rfl, hb2⟩)
      go_ret
      exact ⟨rfl, (hb.trans (hb1.mono (by omega))).trans (hb2.mono (by omega))⟩
  · rw [if_neg h0] at hE2
    subst hE2
    obtain ⟨e1, e2⟩ := ne_b h0
    have H0 := Lib.hid h0; clear h0
    go_wp2_with (go_at_call 57; refine (HK1.out _ HA.out).mono ?_; rintro e w1 ⟨rfl, hb1⟩; have j2 := (hI.below hb1 hI.lt).cell 2)
    go_ret
    exact ⟨rfl, hb.trans (hb1.mono (by omega))⟩
end Go.Proofs.Ytanaccoelifcpaa

namespace Go.Proofs.Ytanaccoelifcpaa
open Go.RowKit

def toB (op : Int) : Bool := decide (op = 3 ∨ op = 4 ∨ op = 7)
def modeB (op : Int) : Bool := decide (op = 1 ∨ op = 6 ∨ op = 7 ∨ op = 8)
def growB (op : Int) : Bool := decide (op = 1 ∨ op = 4 ∨ op = 6 ∨ op = 7)
/-- What an instruction itself says, of a tree with room. -/
def opE (M : PW) (c : Cmd) : Int :=
  if c.op = 1 ∨ c.op = 6 then absE M.nodes c.path else if c.op = 2 then rmE M c.path else if c.op = 5 then filE M.nodes c.path else if c.op = 8 then preE M.nodes c.path else bothE M.nodes c.path c.dst
def refData (c : Cmd) (ds : List ByteArray) : ByteArray := (ds[c.ref.toNat]?).getD ByteArray.empty
/-- What an instruction makes. -/
def opM (M : PW) (c : Cmd) (ds : List ByteArray) : PW :=
  if c.op = 1 then M.put ⟨c.path, -1, c.mode, c.hp⟩
  else if c.op = 2 ∨ c.op = 5 then M.takeAt c.path
  else if c.op = 3 then (M.put ⟨c.dst, lookF M.nodes c.path, 0, c.hd⟩).takeAt c.path
  else if c.op = 4 then M.put ⟨c.dst, lookF M.nodes c.path, 0, c.hd⟩
  else if c.op = 6 then M.made c.path c.hp c.mode (refData c ds)
  else if c.op = 7 then M.made c.dst c.hd c.mode (dataOf M (lookF M.nodes c.path))
  else M.chmod c.path c.mode
def doE (M : PW) (c : Cmd) (ds : List ByteArray) : Int :=
  if isOp c.op = false then 34 else if c.op = 9 then 0
  else if firstE (toB c.op) (modeB c.op) c ds ≠ 0 then firstE (toB c.op) (modeB c.op) c ds
  else if growB c.op = true ∧ 256 ≤ M.nodes.length then fullE M c
  else opE M c
def doM (M : PW) (c : Cmd) (ds : List ByteArray) : PW := if doE M c ds = 0 ∧ c.op ≠ 9 then opM M c ds else M
theorem full_ne (M : PW) (c : Cmd) : ¬ fullE M c = 0 := by
  unfold fullE
  split <;> split <;> (try split) <;> first | decide | assumption
theorem first0 {T Md : Bool} {c : Cmd} {ds : List ByteArray} (h : firstE T Md c ds = 0) :
    (Md = true → 0 ≤ c.mode ∧ c.mode ≤ 511) ∧ validL c.path.data.toList = true ∧ (T = true → validL c.dst.data.toList = true) ∧ (c.op = 6 → 0 ≤ c.ref ∧ c.ref < ds.length ∧ (refData c ds).size ≤ 8192) := by
  unfold firstE at h
  split at h
  · cases h
  · rename_i h1
    split at h
    · cases h
    · rename_i h2
      split at h
      · cases h
      · rename_i h3
        have hv : validL c.path.data.toList = true := by
          cases hq : validL c.path.data.toList
          · exact absurd (.inl hq) h3
          · rfl
        have hv2 : T = true → validL c.dst.data.toList = true := fun ht => by
          cases hq : validL c.dst.data.toList
          · exact absurd (.inr ⟨ht, hq⟩) h3
          · rfl
        refine ⟨fun hm => ?_, hv, hv2, fun h6 => ?_⟩
        · by_cases a : c.mode < 0
          · exact absurd ⟨hm, .inl a⟩ h1
          · by_cases b : 511 < c.mode
            · exact absurd ⟨hm, .inr b⟩ h1
            · omega
        · rw [if_pos h6] at h
          split at h
          · cases h
          · rename_i h4
            split at h
            · cases h
            · rename_i h5
              have : c.ref.toNat < ds.length := by omega
              refine ⟨by omega, by omega, ?_⟩
              rw [List.getElem?_eq_getElem this] at h5
              rw [refData, List.getElem?_eq_getElem this]
              simp only [Option.map_some, Option.getD_some] at h5 ⊢
              omega
set_option maxRecDepth 100000 in
set_option maxHeartbeats 4000000 in
theorem do_1 (B0 wb : Nat) (M : PW) (s : Nat) (p q : ByteArray) (mode ref : Int) (hp : p.size ≤ 9223372036854775807) (hd : q.size ≤ 9223372036854775807) (SA : Option Addr) (sn sc : Nat) (ss : List SC) (ds : List ByteArray) (w : World) (h : WorldAt B0 w wb M s) (hI : M.Inv) (hs : s ≤ 800000) (hl : M.nodes.length ≤ 800000) (hn : M.next ≤ 800000) (hS : StockAt w SA sn ss ds) (hSB : Sl w B0 1 SA sn (ss.flatMap SC.list) ∧ ∀ (k : Nat) (x : SC) (d : ByteArray), ss[k]? = some x → ds[k]? = some d → Sl w B0 1 x.A x.n (bytesC d)) :
    Calls Try.prog 20 #[.pointer (some ⟨wb, 0, none⟩), .agg #[.int .i64 1, .string p, .string q, .int .i64 mode, .int .i64 ref], .slice SA sn sc] w (OpRes B0 wb (doM M (⟨1, p, q, mode, ref, hp, hd⟩ : Cmd) ds) (s + 2) (doE M (⟨1, p, q, mode, ref, hp, hd⟩ : Cmd) ds) w) := by
  obtain ⟨E, hE⟩ : ∃ E, doE M (⟨1, p, q, mode, ref, hp, hd⟩ : Cmd) ds = E := ⟨_, rfl⟩
  obtain ⟨M', hM'⟩ : ∃ M', doM M (⟨1, p, q, mode, ref, hp, hd⟩ : Cmd) ds = M' := ⟨_, rfl⟩
  rw [hE, hM']
  unfold doM at hM'
  rw [hE] at hM'
  unfold doE at hE
  rw [if_neg (by show ¬ isOp (1 : Int) = false; decide), if_neg (by show ¬ (1 : Int) = 9; decide)] at hE
  obtain ⟨F, hF⟩ : ∃ F, firstE false true (⟨1, p, q, mode, ref, hp, hd⟩ : Cmd) ds = F := ⟨_, rfl⟩
  rw [show firstE (toB (⟨1, p, q, mode, ref, hp, hd⟩ : Cmd).op) (modeB (⟨1, p, q, mode, ref, hp, hd⟩ : Cmd).op) (⟨1, p, q, mode, ref, hp, hd⟩ : Cmd) ds = F from hF] at hE
  have hrow : rowOf 1 = #[.bool false, .bool true, .func (.func 49) #[] #[]] := by simp [rowOf, rowV, fnV]
  have hrw := rows_any 1 (by decide)
  unfold RowRes at hrw
  rw [hrow, show isOp 1 = true by decide] at hrw
  have hfs := fun w h => first_any false true (⟨1, p, q, mode, ref, hp, hd⟩ : Cmd) (.func (.func 49) #[] #[]) SA sn sc ss ds w h
  rw [hF] at hfs
  unfold Cmd.cells at hfs
  have Hrw := Lib.hid hrw; have Hfs := Lib.hid hfs; have HM' := Lib.hid hM'
  clear hrw hfs hrow hM'
  have hA := h.keep (World.grownBy_alloc w (.cells #[.int .i64 1, .string p, .string q, .int .i64 mode, .int .i64 ref] 44) none)
  have hFr := Fr.alloc (.cells #[.int .i64 1, .string p, .string q, .int .i64 mode, .int .i64 ref] 44) h.size
  have hII := Blk.new w 44 #[.int .i64 1, .string p, .string q, .int .i64 mode, .int .i64 ref]
  have hS1 := hS.keep ((Below.refl w.heap.size w).alloc (Nat.le_refl _) (.cells #[.int .i64 1, .string p, .string q, .int .i64 mode, .int .i64 ref] 44))
  have HA := Lib.hid hA; have HS := Lib.hid hS1; have HSB := Lib.hid hSB; have HI := Lib.hid hI
  clear hA h hS hS1 hSB hI
  have HE := Lib.hid hE
  clear hE
  have i0 := hII.cell 0
  go_enter Try.func20, Try.ntmps20
  go_upto_region 6 with (first | (go_at_call 40; refine (Hrw.out _).mono ?_; rintro e w1 ⟨rfl, hb1⟩; have j0 := ((hII.below hb1 hII.lt).alloc (.cells #[.bool false, .bool true, .func (.func 49) #[] #[]] 90)).cell 0) | (refine wpList_store_new rfl 90 (.tmp 7) (.tmp 16) rfl 90 #[.bool false, .bool false, .nilFunc] #[.bool false, .bool true, .func (.func 49) #[] #[]] rfl rfl (by kernel_rfl) rfl (by kernel_rfl) ?_))
  have hz1 := hb1.size
  rw [World.size_alloc] at hz1
  have hA1 := (HA.out.keep (grown_below hb1 (Nat.le_refl _))).keep (World.grownBy_alloc w1 (.cells #[.bool false, .bool true, .func (.func 49) #[] #[]] 90) none)
  have hS1 := (HS.out.keep hb1).keep ((Below.refl w1.heap.size w1).alloc (Nat.le_refl _) (.cells #[.bool false, .bool true, .func (.func 49) #[] #[]] 90))
  replace hFr := (hFr.trans (Fr.of_below hb1 HA.out.size)).trans (Fr.alloc (.cells #[.bool false, .bool true, .func (.func 49) #[] #[]] 90) (HA.out.keep (grown_below hb1 (Nat.le_refl _))).size)
  replace hII := (hII.below hb1 hII.lt).alloc (.cells #[.bool false, .bool true, .func (.func 49) #[] #[]] 90)
  have hR := Blk.new w1 90 #[.bool false, .bool true, .func (.func 49) #[] #[]]
  obtain ⟨W1, hW1⟩ : ∃ W1, W1 = w1.alloc (.cells #[.bool false, .bool true, .func (.func 49) #[] #[]] 90) := ⟨_, rfl⟩
  have hrs : w1.heap.size < W1.heap.size := by rw [hW1]; simp
  rw [← hW1] at hA1 hS1 hFr hII hR ⊢
  replace HA := Lib.hid hA1; replace HS := Lib.hid hS1
  clear hW1 hA1 hS1 j0 i0 hb1
  have i0 := hII.cell 0
  have i1 := hII.cell 1
  have i2 := hII.cell 2
  have i3 := hII.cell 3
  have i4 := hII.cell 4
  have r0 := hR.cell 0
  have r1 := hR.cell 1
  have r2 := hR.cell 2
  by_cases hF0 : F = 0
  · subst hF0
    obtain ⟨f1, f2, f3, f4⟩ := first0 hF
    have HF := Lib.hid hF; have F1 := Lib.hid f1; have F2 := Lib.hid f2; have F3 := Lib.hid f3; have F4 := Lib.hid f4
    clear hF f1 f2 f3 f4
    have hE2 := HE.out
    rw [if_neg (by simp)] at hE2
    replace HE := Lib.hid hE2; clear hE2
    go_upto_region 9 with (go_at_call 41; refine (Hfs.out _ HS.out).mono ?_; rintro e w2 ⟨rfl, hb2⟩)
    have hA2 := HA.out.keep (grown_below hb2 (Nat.le_refl _))
    have hS2 := HS.out.keep hb2
    have hz2 := hb2.size
    replace hFr := hFr.trans (Fr.of_below hb2 HA.out.size)
    replace hII := hII.below hb2 hII.lt
    replace hR := hR.below hb2 hR.lt
    replace HA := Lib.hid hA2; replace HS := Lib.hid hS2
    clear hA2 hS2 i0 i1 i2 i3 i4 r0 r1 r2 hb2
    have i0 := hII.cell 0
    have i1 := hII.cell 1
    have i2 := hII.cell 2
    have i3 := hII.cell 3
    have i4 := hII.cell 4
    have r2 := hR.cell 2
    obtain ⟨nb, fb, kb, ms, kl, hM, _⟩ := HA.out
    have b0 := hM.blk.cell 0
    have hwl := hM.blk.lt
    have hln := fun ty => hM.nodes.len Try.mtNodes ty
    obtain ⟨nl, hnl⟩ : ∃ nl, M.nodes.length = nl := ⟨_, rfl⟩
    have Hnl : Hid ((nodesE M.nodes).length = nl) := Lib.hid (by simp [nodesE, hnl])
    have hE4 := HE.out
    rw [hnl] at hE4
    have hnl2 : nl ≤ 800000 := by omega
    rw [Hnl.out] at hln
    clear hnl HE
    by_cases h256 : 256 ≤ nl
    · rw [if_pos ⟨rfl, h256⟩] at hE4
      have hK := fun w h => full_1 B0 wb M s p q mode ref hp hd F2.out w h
      rw [hE4] at hK
      have HK := Lib.hid hK; have HE := Lib.hid hE4; clear hK hE4
      have h256' : (256 : Int) ≤ nl := by omega
      go_wp2_with ((go_at_call 42; refine (HK.out _ HA.out).mono ?_; rintro e w4 ⟨rfl, hb4⟩))
      go_ret
      refine ⟨rfl, ?_, hFr.trans (Fr.of_below hb4 HA.out.size)⟩
      have hEn : ¬ E = 0 := by rw [← HE.out]; exact full_ne _ _
      rw [← HM'.out, if_neg (fun h => hEn h.1)]
      exact (HA.out.keep (grown_below hb4 (Nat.le_refl _))).mono (by omega)
    · rw [if_neg (fun h => h256 h.2)] at hE4
      have HE := Lib.hid hE4; clear hE4
      have h256' : ¬ (256 : Int) ≤ nl := by omega
      have hE3 := HE.out
      have hop : opE M (⟨1, p, q, mode, ref, hp, hd⟩ : Cmd) = absE M.nodes p := by unfold opE; simp
      rw [hop] at hE3
      have HE3 := Lib.hid hE3; clear hE3 hop
      have hcall := fun w hA => mkdir_any B0 wb M s (⟨1, p, q, mode, ref, hp, hd⟩ : Cmd) none 0 0 F2.out w hA HI.out (by omega) (by omega) (by omega)
      have Hcall := Lib.hid hcall; clear hcall
      go_wp2_with (go_at_call 49; refine (Hcall.out _ HA.out).mono ?_; rintro e w5 ⟨rfl, hw5, hf5⟩)
      go_ret
      refine ⟨by rw [← HE3.out]; rfl, ?_, hFr.trans hf5⟩
      have hfin : (if absE M.nodes p = 0 then M.put ⟨p, -1, mode, hp⟩ else M) = M' := by
        rw [← HM'.out, ← HE3.out]
        by_cases hz : absE M.nodes p = 0
        · rw [if_pos hz, if_pos ⟨hz, by show ¬ (1 : Int) = 9; decide⟩, opM]
          simp
        · rw [if_neg hz, if_neg (fun h => hz h.1)]
      rw [← hfin]
      exact hw5.mono (by omega)
  · have hE2 := HE.out
    rw [if_pos hF0] at hE2
    subst hE2
    have HF := Lib.hid hF; clear hF
    obtain ⟨e1, e2⟩ := ne_b hF0
    have HF0 := Lib.hid hF0; clear hF0
    go_wp2_with (go_at_call 41; refine (Hfs.out _ HS.out).mono ?_; rintro e w2 ⟨rfl, hb2⟩)
    go_ret
    refine ⟨rfl, ?_, hFr.trans (Fr.of_below hb2 HA.out.size)⟩
    rw [← HM'.out, if_neg (fun h => HF0.out h.1)]
    exact (HA.out.keep (grown_below hb2 (Nat.le_refl _))).mono (by omega)
set_option maxRecDepth 100000 in
set_option maxHeartbeats 4000000 in
theorem do_2 (B0 wb : Nat) (M : PW) (s : Nat) (p q : ByteArray) (mode ref : Int) (hp : p.size ≤ 9223372036854775807) (hd : q.size ≤ 9223372036854775807) (SA : Option Addr) (sn sc : Nat) (ss : List SC) (ds : List ByteArray) (w : World) (h : WorldAt B0 w wb M s) (hI : M.Inv) (hs : s ≤ 800000) (hl : M.nodes.length ≤ 800000) (hn : M.next ≤ 800000) (hS : StockAt w SA sn ss ds) (hSB : Sl w B0 1 SA sn (ss.flatMap SC.list) ∧ ∀ (k : Nat) (x : SC) (d : ByteArray), ss[k]? = some x → ds[k]? = some d → Sl w B0 1 x.A x.n (bytesC d)) :
    Calls Try.prog 20 #[.pointer (some ⟨wb, 0, none⟩), .agg #[.int .i64 2, .string p, .string q, .int .i64 mode, .int .i64 ref], .slice SA sn sc] w (OpRes B0 wb (doM M (⟨2, p, q, mode, ref, hp, hd⟩ : Cmd) ds) (s + 2) (doE M (⟨2, p, q, mode, ref, hp, hd⟩ : Cmd) ds) w) := by
  obtain ⟨E, hE⟩ : ∃ E, doE M (⟨2, p, q, mode, ref, hp, hd⟩ : Cmd) ds = E := ⟨_, rfl⟩
  obtain ⟨M', hM'⟩ : ∃ M', doM M (⟨2, p, q, mode, ref, hp, hd⟩ : Cmd) ds = M' := ⟨_, rfl⟩
  rw [hE, hM']
  unfold doM at hM'
  rw [hE] at hM'
  unfold doE at hE
  rw [if_neg (by show ¬ isOp (2 : Int) = false; decide), if_neg (by show ¬ (2 : Int) = 9; decide)] at hE
  obtain ⟨F, hF⟩ : ∃ F, firstE false false (⟨2, p, q, mode, ref, hp, hd⟩ : Cmd) ds = F := ⟨_, rfl⟩
  rw [show firstE (toB (⟨2, p, q, mode, ref, hp, hd⟩ : Cmd).op) (modeB (⟨2, p, q, mode, ref, hp, hd⟩ : Cmd).op) (⟨2, p, q, mode, ref, hp, hd⟩ : Cmd) ds = F from hF] at hE
  have hrow : rowOf 2 = #[.bool false, .bool false, .func (.func 50) #[] #[]] := by simp [rowOf, rowV, fnV]
  have hrw := rows_any 2 (by decide)
  unfold RowRes at hrw
  rw [hrow, show isOp 2 = true by decide] at hrw
  have hfs := fun w h => first_any false false (⟨2, p, q, mode, ref, hp, hd⟩ : Cmd) (.func (.func 50) #[] #[]) SA sn sc ss ds w h
  rw [hF] at hfs
  unfold Cmd.cells at hfs
  have Hrw := Lib.hid hrw; have Hfs := Lib.hid hfs; have HM' := Lib.hid hM'
  clear hrw hfs hrow hM'
  have hA := h.keep (World.grownBy_alloc w (.cells #[.int .i64 2, .string p, .string q, .int .i64 mode, .int .i64 ref] 44) none)
  have hFr := Fr.alloc (.cells #[.int .i64 2, .string p, .string q, .int .i64 mode, .int .i64 ref] 44) h.size
  have hII := Blk.new w 44 #[.int .i64 2, .string p, .string q, .int .i64 mode, .int .i64 ref]
  have hS1 := hS.keep ((Below.refl w.heap.size w).alloc (Nat.le_refl _) (.cells #[.int .i64 2, .string p, .string q, .int .i64 mode, .int .i64 ref] 44))
  have HA := Lib.hid hA; have HS := Lib.hid hS1; have HSB := Lib.hid hSB; have HI := Lib.hid hI
  clear hA h hS hS1 hSB hI
  have HE := Lib.hid hE
  clear hE
  have i0 := hII.cell 0
  go_enter Try.func20, Try.ntmps20
  go_upto_region 6 with (first | (go_at_call 40; refine (Hrw.out _).mono ?_; rintro e w1 ⟨rfl, hb1⟩; have j0 := ((hII.below hb1 hII.lt).alloc (.cells #[.bool false, .bool false, .func (.func 50) #[] #[]] 90)).cell 0) | (refine wpList_store_new rfl 90 (.tmp 7) (.tmp 16) rfl 90 #[.bool false, .bool false, .nilFunc] #[.bool false, .bool false, .func (.func 50) #[] #[]] rfl rfl (by kernel_rfl) rfl (by kernel_rfl) ?_))
  have hz1 := hb1.size
  rw [World.size_alloc] at hz1
  have hA1 := (HA.out.keep (grown_below hb1 (Nat.le_refl _))).keep (World.grownBy_alloc w1 (.cells #[.bool false, .bool false, .func (.func 50) #[] #[]] 90) none)
  have hS1 := (HS.out.keep hb1).keep ((Below.refl w1.heap.size w1).alloc (Nat.le_refl _) (.cells #[.bool false, .bool false, .func (.func 50) #[] #[]] 90))
  replace hFr := (hFr.trans (Fr.of_below hb1 HA.out.size)).trans (Fr.alloc (.cells #[.bool false, .bool false, .func (.func 50) #[] #[]] 90) (HA.out.keep (grown_below hb1 (Nat.le_refl _))).size)
  replace hII := (hII.below hb1 hII.lt).alloc (.cells #[.bool false, .bool false, .func (.func 50) #[] #[]] 90)
  have hR := Blk.new w1 90 #[.bool false, .bool false, .func (.func 50) #[] #[]]
  obtain ⟨W1, hW1⟩ : ∃ W1, W1 = w1.alloc (.cells #[.bool false, .bool false, .func (.func 50) #[] #[]] 90) := ⟨_, rfl⟩
  have hrs : w1.heap.size < W1.heap.size := by rw [hW1]; simp
  rw [← hW1] at hA1 hS1 hFr hII hR ⊢
  replace HA := Lib.hid hA1; replace HS := Lib.hid hS1
  clear hW1 hA1 hS1 j0 i0 hb1
  have i0 := hII.cell 0
  have i1 := hII.cell 1
  have i2 := hII.cell 2
  have i3 := hII.cell 3
  have i4 := hII.cell 4
  have r0 := hR.cell 0
  have r1 := hR.cell 1
  have r2 := hR.cell 2
  by_cases hF0 : F = 0
  · subst hF0
    obtain ⟨f1, f2, f3, f4⟩ := first0 hF
    have HF := Lib.hid hF; have F1 := Lib.hid f1; have F2 := Lib.hid f2; have F3 := Lib.hid f3; have F4 := Lib.hid f4
    clear hF f1 f2 f3 f4
    have hE2 := HE.out
    rw [if_neg (by simp)] at hE2
    replace HE := Lib.hid hE2; clear hE2
    go_upto_region 9 with (go_at_call 41; refine (Hfs.out _ HS.out).mono ?_; rintro e w2 ⟨rfl, hb2⟩)
    have hA2 := HA.out.keep (grown_below hb2 (Nat.le_refl _))
    have hS2 := HS.out.keep hb2
    have hz2 := hb2.size
    replace hFr := hFr.trans (Fr.of_below hb2 HA.out.size)
    replace hII := hII.below hb2 hII.lt
    replace hR := hR.below hb2 hR.lt
    replace HA := Lib.hid hA2; replace HS := Lib.hid hS2
    clear hA2 hS2 i0 i1 i2 i3 i4 r0 r1 r2 hb2
    have i0 := hII.cell 0
    have i1 := hII.cell 1
    have i2 := hII.cell 2
    have i3 := hII.cell 3
    have i4 := hII.cell 4
    have r2 := hR.cell 2
    have hE4 := HE.out
    rw [if_neg (fun h => absurd h.1 (by show ¬ growB (2 : Int) = true; decide))] at hE4
    replace HE := Lib.hid hE4; clear hE4
    have hE3 := HE.out
    have hop : opE M (⟨2, p, q, mode, ref, hp, hd⟩ : Cmd) = rmE M p := by unfold opE; simp
    rw [hop] at hE3
    have HE3 := Lib.hid hE3; clear hE3 hop
    have hcall := fun w hA => rmdir_any B0 wb M s (⟨2, p, q, mode, ref, hp, hd⟩ : Cmd) none 0 0 F2.out w hA HI.out (by omega) (by omega) (by omega)
    have Hcall := Lib.hid hcall; clear hcall
    go_wp2_with (go_at_call 50; refine (Hcall.out _ HA.out).mono ?_; rintro e w5 ⟨rfl, hw5, hf5⟩)
    go_ret
    refine ⟨by rw [← HE3.out]; rfl, ?_, hFr.trans hf5⟩
    have hfin : (if rmE M p = 0 then M.takeAt p else M) = M' := by
      rw [← HM'.out, ← HE3.out]
      by_cases hz : rmE M p = 0
      · rw [if_pos hz, if_pos ⟨hz, by show ¬ (2 : Int) = 9; decide⟩, opM]
        simp
      · rw [if_neg hz, if_neg (fun h => hz h.1)]
    rw [← hfin]
    exact hw5.mono (by omega)
  · have hE2 := HE.out
    rw [if_pos hF0] at hE2
    subst hE2
    have HF := Lib.hid hF; clear hF
    obtain ⟨e1, e2⟩ := ne_b hF0
    have HF0 := Lib.hid hF0; clear hF0
    go_wp2_with (go_at_call 41; refine (Hfs.out _ HS.out).mono ?_; rintro e w2 ⟨rfl, hb2⟩)
    go_ret
    refine ⟨rfl, ?_, hFr.trans (Fr.of_below hb2 HA.out.size)⟩
    rw [← HM'.out, if_neg (fun h => HF0.out h.1)]
    exact (HA.out.keep (grown_below hb2 (Nat.le_refl _))).mono (by omega)
set_option maxRecDepth 100000 in
set_option maxHeartbeats 4000000 in
theorem do_3 (B0 wb : Nat) (M : PW) (s : Nat) (p q : ByteArray) (mode ref : Int) (hp : p.size ≤ 9223372036854775807) (hd : q.size ≤ 9223372036854775807) (SA : Option Addr) (sn sc : Nat) (ss : List SC) (ds : List ByteArray) (w : World) (h : WorldAt B0 w wb M s) (hI : M.Inv) (hs : s ≤ 800000) (hl : M.nodes.length ≤ 800000) (hn : M.next ≤ 800000) (hS : StockAt w SA sn ss ds) (hSB : Sl w B0 1 SA sn (ss.flatMap SC.list) ∧ ∀ (k : Nat) (x : SC) (d : ByteArray), ss[k]? = some x → ds[k]? = some d → Sl w B0 1 x.A x.n (bytesC d)) :
    Calls Try.prog 20 #[.pointer (some ⟨wb, 0, none⟩), .agg #[.int .i64 3, .string p, .string q, .int .i64 mode, .int .i64 ref], .slice SA sn sc] w (OpRes B0 wb (doM M (⟨3, p, q, mode, ref, hp, hd⟩ : Cmd) ds) (s + 2) (doE M (⟨3, p, q, mode, ref, hp, hd⟩ : Cmd) ds) w) := by
  obtain ⟨E, hE⟩ : ∃ E, doE M (⟨3, p, q, mode, ref, hp, hd⟩ : Cmd) ds = E := ⟨_, rfl⟩
  obtain ⟨M', hM'⟩ : ∃ M', doM M (⟨3, p, q, mode, ref, hp, hd⟩ : Cmd) ds = M' := ⟨_, rfl⟩
  rw [hE, hM']
  unfold doM at hM'
  rw [hE] at hM'
  unfold doE at hE
  rw [if_neg (by show ¬ isOp (3 : Int) = false; decide), if_neg (by show ¬ (3 : Int) = 9; decide)] at hE
  obtain ⟨F, hF⟩ : ∃ F, firstE true false (⟨3, p, q, mode, ref, hp, hd⟩ : Cmd) ds = F := ⟨_, rfl⟩
  rw [show firstE (toB (⟨3, p, q, mode, ref, hp, hd⟩ : Cmd).op) (modeB (⟨3, p, q, mode, ref, hp, hd⟩ : Cmd).op) (⟨3, p, q, mode, ref, hp, hd⟩ : Cmd) ds = F from hF] at hE
  have hrow : rowOf 3 = #[.bool true, .bool false, .func (.func 51) #[] #[]] := by simp [rowOf, rowV, fnV]
  have hrw := rows_any 3 (by decide)
  unfold RowRes at hrw
  rw [hrow, show isOp 3 = true by decide] at hrw
  have hfs := fun w h => first_any true false (⟨3, p, q, mode, ref, hp, hd⟩ : Cmd) (.func (.func 51) #[] #[]) SA sn sc ss ds w h
  rw [hF] at hfs
  unfold Cmd.cells at hfs
  have Hrw := Lib.hid hrw; have Hfs := Lib.hid hfs; have HM' := Lib.hid hM'
  clear hrw hfs hrow hM'
  have hA := h.keep (World.grownBy_alloc w (.cells #[.int .i64 3, .string p, .string q, .int .i64 mode, .int .i64 ref] 44) none)
  have hFr := Fr.alloc (.cells #[.int .i64 3, .string p, .string q, .int .i64 mode, .int .i64 ref] 44) h.size
  have hII := Blk.new w 44 #[.int .i64 3, .string p, .string q, .int .i64 mode, .int .i64 ref]
  have hS1 := hS.keep ((Below.refl w.heap.size w).alloc (Nat.le_refl _) (.cells #[.int .i64 3, .string p, .string q, .int .i64 mode, .int .i64 ref] 44))
  have HA := Lib.hid hA; have HS := Lib.hid hS1; have HSB := Lib.hid hSB; have HI := Lib.hid hI
  clear hA h hS hS1 hSB hI
  have HE := Lib.hid hE
  clear hE
  have i0 := hII.cell 0
  go_enter Try.func20, Try.ntmps20
  go_upto_region 6 with (first | (go_at_call 40; refine (Hrw.out _).mono ?_; rintro e w1 ⟨rfl, hb1⟩; have j0 := ((hII.below hb1 hII.lt).alloc (.cells #[.bool true, .bool false, .func (.func 51) #[] #[]] 90)).cell 0) | (refine wpList_store_new rfl 90 (.tmp 7) (.tmp 16) rfl 90 #[.bool false, .bool false, .nilFunc] #[.bool true, .bool false, .func (.func 51) #[] #[]] rfl rfl (by kernel_rfl) rfl (by kernel_rfl) ?_))
  have hz1 := hb1.size
  rw [World.size_alloc] at hz1
  have hA1 := (HA.out.keep (grown_below hb1 (Nat.le_refl _))).keep (World.grownBy_alloc w1 (.cells #[.bool true, .bool false, .func (.func 51) #[] #[]] 90) none)
  have hS1 := (HS.out.keep hb1).keep ((Below.refl w1.heap.size w1).alloc (Nat.le_refl _) (.cells #[.bool true, .bool false, .func (.func 51) #[] #[]] 90))
  replace hFr := (hFr.trans (Fr.of_below hb1 HA.out.size)).trans (Fr.alloc (.cells #[.bool true, .bool false, .func (.func 51) #[] #[]] 90) (HA.out.keep (grown_below hb1 (Nat.le_refl _))).size)
  replace hII := (hII.below hb1 hII.lt).alloc (.cells #[.bool true, .bool false, .func (.func 51) #[] #[]] 90)
  have hR := Blk.new w1 90 #[.bool true, .bool false, .func (.func 51) #[] #[]]
  obtain ⟨W1, hW1⟩ : ∃ W1, W1 = w1.alloc (.cells #[.bool true, .bool false, .func (.func 51) #[] #[]] 90) := ⟨_, rfl⟩
  have hrs : w1.heap.size < W1.heap.size := by rw [hW1]; simp
  rw [← hW1] at hA1 hS1 hFr hII hR ⊢
  replace HA := Lib.hid hA1; replace HS := Lib.hid hS1
  clear hW1 hA1 hS1 j0 i0 hb1
  have i0 := hII.cell 0
  have i1 := hII.cell 1
  have i2 := hII.cell 2
  have i3 := hII.cell 3
  have i4 := hII.cell 4
  have r0 := hR.cell 0
  have r1 := hR.cell 1
  have r2 := hR.cell 2
  by_cases hF0 : F = 0
  · subst hF0
    obtain ⟨f1, f2, f3, f4⟩ := first0 hF
    have HF := Lib.hid hF; have F1 := Lib.hid f1; have F2 := Lib.hid f2; have F3 := Lib.hid f3; have F4 := Lib.hid f4
    clear hF f1 f2 f3 f4
    have hE2 := HE.out
    rw [if_neg (by simp)] at hE2
    replace HE := Lib.hid hE2; clear hE2
    go_upto_region 9 with (go_at_call 41; refine (Hfs.out _ HS.out).mono ?_; rintro e w2 ⟨rfl, hb2⟩)
    have hA2 := HA.out.keep (grown_below hb2 (Nat.le_refl _))
    have hS2 := HS.out.keep hb2
    have hz2 := hb2.size
    replace hFr := hFr.trans (Fr.of_below hb2 HA.out.size)
    replace hII := hII.below hb2 hII.lt
    replace hR := hR.below hb2 hR.lt
    replace HA := Lib.hid hA2; replace HS := Lib.hid hS2
    clear hA2 hS2 i0 i1 i2 i3 i4 r0 r1 r2 hb2
    have i0 := hII.cell 0
    have i1 := hII.cell 1
    have i2 := hII.cell 2
    have i3 := hII.cell 3
    have i4 := hII.cell 4
    have r2 := hR.cell 2
    have hE4 := HE.out
    rw [if_neg (fun h => absurd h.1 (by show ¬ growB (3 : Int) = true; decide))] at hE4
    replace HE := Lib.hid hE4; clear hE4
    have hE3 := HE.out
    have hop : opE M (⟨3, p, q, mode, ref, hp, hd⟩ : Cmd) = bothE M.nodes p q := by unfold opE; simp
    rw [hop] at hE3
    have HE3 := Lib.hid hE3; clear hE3 hop
    have hcall := fun w hA => rename_any B0 wb M s (⟨3, p, q, mode, ref, hp, hd⟩ : Cmd) none 0 0 F2.out (F3.out (by trivial)) w hA HI.out (by omega) (by omega) (by omega)
    have Hcall := Lib.hid hcall; clear hcall
    go_wp2_with (go_at_call 51; refine (Hcall.out _ HA.out).mono ?_; rintro e w5 ⟨rfl, hw5, hf5⟩)
    go_ret
    refine ⟨by rw [← HE3.out]; rfl, ?_, hFr.trans hf5⟩
    have hfin : (if bothE M.nodes p q = 0 then (M.put ⟨q, lookF M.nodes p, 0, hd⟩).takeAt p else M) = M' := by
      rw [← HM'.out, ← HE3.out]
      by_cases hz : bothE M.nodes p q = 0
      · rw [if_pos hz, if_pos ⟨hz, by show ¬ (3 : Int) = 9; decide⟩, opM]
        simp
      · rw [if_neg hz, if_neg (fun h => hz h.1)]
    rw [← hfin]
    exact hw5.mono (by omega)
  · have hE2 := HE.out
    rw [if_pos hF0] at hE2
    subst hE2
    have HF := Lib.hid hF; clear hF
    obtain ⟨e1, e2⟩ := ne_b hF0
    have HF0 := Lib.hid hF0; clear hF0
    go_wp2_with (go_at_call 41; refine (Hfs.out _ HS.out).mono ?_; rintro e w2 ⟨rfl, hb2⟩)
    go_ret
    refine ⟨rfl, ?_, hFr.trans (Fr.of_below hb2 HA.out.size)⟩
    rw [← HM'.out, if_neg (fun h => HF0.out h.1)]
    exact (HA.out.keep (grown_below hb2 (Nat.le_refl _))).mono (by omega)
set_option maxRecDepth 100000 in
set_option maxHeartbeats 4000000 in
theorem do_4 (B0 wb : Nat) (M : PW) (s : Nat) (p q : ByteArray) (mode ref : Int) (hp : p.size ≤ 9223372036854775807) (hd : q.size ≤ 9223372036854775807) (SA : Option Addr) (sn sc : Nat) (ss : List SC) (ds : List ByteArray) (w : World) (h : WorldAt B0 w wb M s) (hI : M.Inv) (hs : s ≤ 800000) (hl : M.nodes.length ≤ 800000) (hn : M.next ≤ 800000) (hS : StockAt w SA sn ss ds) (hSB : Sl w B0 1 SA sn (ss.flatMap SC.list) ∧ ∀ (k : Nat) (x : SC) (d : ByteArray), ss[k]? = some x → ds[k]? = some d → Sl w B0 1 x.A x.n (bytesC d)) :
    Calls Try.prog 20 #[.pointer (some ⟨wb, 0, none⟩), .agg #[.int .i64 4, .string p, .string q, .int .i64 mode, .int .i64 ref], .slice SA sn sc] w (OpRes B0 wb (doM M (⟨4, p, q, mode, ref, hp, hd⟩ : Cmd) ds) (s + 2) (doE M (⟨4, p, q, mode, ref, hp, hd⟩ : Cmd) ds) w) := by
  obtain ⟨E, hE⟩ : ∃ E, doE M (⟨4, p, q, mode, ref, hp, hd⟩ : Cmd) ds = E := ⟨_, rfl⟩
  obtain ⟨M', hM'⟩ : ∃ M', doM M (⟨4, p, q, mode, ref, hp, hd⟩ : Cmd) ds = M' := ⟨_, rfl⟩
  rw [hE, hM']
  unfold doM at hM'
  rw [hE] at hM'
  unfold doE at hE
  rw [if_neg (by show ¬ isOp (4 : Int) = false; decide), if_neg (by show ¬ (4 : Int) = 9; decide)] at hE
  obtain ⟨F, hF⟩ : ∃ F, firstE true false (⟨4, p, q, mode, ref, hp, hd⟩ : Cmd) ds = F := ⟨_, rfl⟩
  rw [show firstE (toB (⟨4, p, q, mode, ref, hp, hd⟩ : Cmd).op) (modeB (⟨4, p, q, mode, ref, hp, hd⟩ : Cmd).op) (⟨4, p, q, mode, ref, hp, hd⟩ : Cmd) ds = F from hF] at hE
  have hrow : rowOf 4 = #[.bool true, .bool false, .func (.func 52) #[] #[]] := by simp [rowOf, rowV, fnV]
  have hrw := rows_any 4 (by decide)
  unfold RowRes at hrw
  rw [hrow, show isOp 4 = true by decide] at hrw
  have hfs := fun w h => first_any true false (⟨4, p, q, mode, ref, hp, hd⟩ : Cmd) (.func (.func 52) #[] #[]) SA sn sc ss ds w h
  rw [hF] at hfs
  unfold Cmd.cells at hfs
  have Hrw := Lib.hid hrw; have Hfs := Lib.hid hfs; have HM' := Lib.hid hM'
  clear hrw hfs hrow hM'
  have hA := h.keep (World.grownBy_alloc w (.cells #[.int .i64 4, .string p, .string q, .int .i64 mode, .int .i64 ref] 44) none)
  have hFr := Fr.alloc (.cells #[.int .i64 4, .string p, .string q, .int .i64 mode, .int .i64 ref] 44) h.size
  have hII := Blk.new w 44 #[.int .i64 4, .string p, .string q, .int .i64 mode, .int .i64 ref]
  have hS1 := hS.keep ((Below.refl w.heap.size w).alloc (Nat.le_refl _) (.cells #[.int .i64 4, .string p, .string q, .int .i64 mode, .int .i64 ref] 44))
  have HA := Lib.hid hA; have HS := Lib.hid hS1; have HSB := Lib.hid hSB; have HI := Lib.hid hI
  clear hA h hS hS1 hSB hI
  have HE := Lib.hid hE
  clear hE
  have i0 := hII.cell 0
  go_enter Try.func20, Try.ntmps20
  go_upto_region 6 with (first | (go_at_call 40; refine (Hrw.out _).mono ?_; rintro e w1 ⟨rfl, hb1⟩; have j0 := ((hII.below hb1 hII.lt).alloc (.cells #[.bool true, .bool false, .func (.func 52) #[] #[]] 90)).cell 0) | (refine wpList_store_new rfl 90 (.tmp 7) (.tmp 16) rfl 90 #[.bool false, .bool false, .nilFunc] #[.bool true, .bool false, .func (.func 52) #[] #[]] rfl rfl (by kernel_rfl) rfl (by kernel_rfl) ?_))
  have hz1 := hb1.size
  rw [World.size_alloc] at hz1
  have hA1 := (HA.out.keep (grown_below hb1 (Nat.le_refl _))).keep (World.grownBy_alloc w1 (.cells #[.bool true, .bool false, .func (.func 52) #[] #[]] 90) none)
  have hS1 := (HS.out.keep hb1).keep ((Below.refl w1.heap.size w1).alloc (Nat.le_refl _) (.cells #[.bool true, .bool false, .func (.func 52) #[] #[]] 90))
  replace hFr := (hFr.trans (Fr.of_below hb1 HA.out.size)).trans (Fr.alloc (.cells #[.bool true, .bool false, .func (.func 52) #[] #[]] 90) (HA.out.keep (grown_below hb1 (Nat.le_refl _))).size)
  replace hII := (hII.below hb1 hII.lt).alloc (.cells #[.bool true, .bool false, .func (.func 52) #[] #[]] 90)
  have hR := Blk.new w1 90 #[.bool true, .bool false, .func (.func 52) #[] #[]]
  obtain ⟨W1, hW1⟩ : ∃ W1, W1 = w1.alloc (.cells #[.bool true, .bool false, .func (.func 52) #[] #[]] 90) := ⟨_, rfl⟩
  have hrs : w1.heap.size < W1.heap.size := by rw [hW1]; simp
  rw [← hW1] at hA1 hS1 hFr hII hR ⊢
  replace HA := Lib.hid hA1; replace HS := Lib.hid hS1
  clear hW1 hA1 hS1 j0 i0 hb1
  have i0 := hII.cell 0
  have i1 := hII.cell 1
  have i2 := hII.cell 2
  have i3 := hII.cell 3
  have i4 := hII.cell 4
  have r0 := hR.cell 0
  have r1 := hR.cell 1
  have r2 := hR.cell 2
  by_cases hF0 : F = 0
  · subst hF0
    obtain ⟨f1, f2, f3, f4⟩ := first0 hF
    have HF := Lib.hid hF; have F1 := Lib.hid f1; have F2 := Lib.hid f2; have F3 := Lib.hid f3; have F4 := Lib.hid f4
    clear hF f1 f2 f3 f4
    have hE2 := HE.out
    rw [if_neg (by simp)] at hE2
    replace HE := Lib.hid hE2; clear hE2
    go_upto_region 9 with (go_at_call 41; refine (Hfs.out _ HS.out).mono ?_; rintro e w2 ⟨rfl, hb2⟩)
    have hA2 := HA.out.keep (grown_below hb2 (Nat.le_refl _))
    have hS2 := HS.out.keep hb2
    have hz2 := hb2.size
    replace hFr := hFr.trans (Fr.of_below hb2 HA.out.size)
    replace hII := hII.below hb2 hII.lt
    replace hR := hR.below hb2 hR.lt
    replace HA := Lib.hid hA2; replace HS := Lib.hid hS2
    clear hA2 hS2 i0 i1 i2 i3 i4 r0 r1 r2 hb2
    have i0 := hII.cell 0
    have i1 := hII.cell 1
    have i2 := hII.cell 2
    have i3 := hII.cell 3
    have i4 := hII.cell 4
    have r2 := hR.cell 2
    obtain ⟨nb, fb, kb, ms, kl, hM, _⟩ := HA.out
    have b0 := hM.blk.cell 0
    have hwl := hM.blk.lt
    have hln := fun ty => hM.nodes.len Try.mtNodes ty
    obtain ⟨nl, hnl⟩ : ∃ nl, M.nodes.length = nl := ⟨_, rfl⟩
    have Hnl : Hid ((nodesE M.nodes).length = nl) := Lib.hid (by simp [nodesE, hnl])
    have hE4 := HE.out
    rw [hnl] at hE4
    have hnl2 : nl ≤ 800000 := by omega
    rw [Hnl.out] at hln
    clear hnl HE
    by_cases h256 : 256 ≤ nl
    · rw [if_pos ⟨rfl, h256⟩] at hE4
      have hK := fun w h => full_4 B0 wb M s p q mode ref hp hd F2.out (F3.out (by trivial)) w h
      rw [hE4] at hK
      have HK := Lib.hid hK; have HE := Lib.hid hE4; clear hK hE4
      have h256' : (256 : Int) ≤ nl := by omega
      go_wp2_with ((go_at_call 42; refine (HK.out _ HA.out).mono ?_; rintro e w4 ⟨rfl, hb4⟩))
      go_ret
      refine ⟨rfl, ?_, hFr.trans (Fr.of_below hb4 HA.out.size)⟩
      have hEn : ¬ E = 0 := by rw [← HE.out]; exact full_ne _ _
      rw [← HM'.out, if_neg (fun h => hEn h.1)]
      exact (HA.out.keep (grown_below hb4 (Nat.le_refl _))).mono (by omega)
    · rw [if_neg (fun h => h256 h.2)] at hE4
      have HE := Lib.hid hE4; clear hE4
      have h256' : ¬ (256 : Int) ≤ nl := by omega
      have hE3 := HE.out
      have hop : opE M (⟨4, p, q, mode, ref, hp, hd⟩ : Cmd) = bothE M.nodes p q := by unfold opE; simp
      rw [hop] at hE3
      have HE3 := Lib.hid hE3; clear hE3 hop
      have hcall := fun w hA => link_any B0 wb M s (⟨4, p, q, mode, ref, hp, hd⟩ : Cmd) none 0 0 F2.out (F3.out (by trivial)) w hA HI.out (by omega) (by omega) (by omega)
      have Hcall := Lib.hid hcall; clear hcall
      go_wp2_with (go_at_call 52; refine (Hcall.out _ HA.out).mono ?_; rintro e w5 ⟨rfl, hw5, hf5⟩)
      go_ret
      refine ⟨by rw [← HE3.out]; rfl, ?_, hFr.trans hf5⟩
      have hfin : (if bothE M.nodes p q = 0 then M.put ⟨q, lookF M.nodes p, 0, hd⟩ else M) = M' := by
        rw [← HM'.out, ← HE3.out]
        by_cases hz : bothE M.nodes p q = 0
        · rw [if_pos hz, if_pos ⟨hz, by show ¬ (4 : Int) = 9; decide⟩, opM]
          simp
        · rw [if_neg hz, if_neg (fun h => hz h.1)]
      rw [← hfin]
      exact hw5.mono (by omega)
  · have hE2 := HE.out
    rw [if_pos hF0] at hE2
    subst hE2
    have HF := Lib.hid hF; clear hF
    obtain ⟨e1, e2⟩ := ne_b hF0
    have HF0 := Lib.hid hF0; clear hF0
    go_wp2_with (go_at_call 41; refine (Hfs.out _ HS.out).mono ?_; rintro e w2 ⟨rfl, hb2⟩)
    go_ret
    refine ⟨rfl, ?_, hFr.trans (Fr.of_below hb2 HA.out.size)⟩
    rw [← HM'.out, if_neg (fun h => HF0.out h.1)]
    exact (HA.out.keep (grown_below hb2 (Nat.le_refl _))).mono (by omega)
set_option maxRecDepth 100000 in
set_option maxHeartbeats 4000000 in
theorem do_5 (B0 wb : Nat) (M : PW) (s : Nat) (p q : ByteArray) (mode ref : Int) (hp : p.size ≤ 9223372036854775807) (hd : q.size ≤ 9223372036854775807) (SA : Option Addr) (sn sc : Nat) (ss : List SC) (ds : List ByteArray) (w : World) (h : WorldAt B0 w wb M s) (hI : M.Inv) (hs : s ≤ 800000) (hl : M.nodes.length ≤ 800000) (hn : M.next ≤ 800000) (hS : StockAt w SA sn ss ds) (hSB : Sl w B0 1 SA sn (ss.flatMap SC.list) ∧ ∀ (k : Nat) (x : SC) (d : ByteArray), ss[k]? = some x → ds[k]? = some d → Sl w B0 1 x.A x.n (bytesC d)) :
    Calls Try.prog 20 #[.pointer (some ⟨wb, 0, none⟩), .agg #[.int .i64 5, .string p, .string q, .int .i64 mode, .int .i64 ref], .slice SA sn sc] w (OpRes B0 wb (doM M (⟨5, p, q, mode, ref, hp, hd⟩ : Cmd) ds) (s + 2) (doE M (⟨5, p, q, mode, ref, hp, hd⟩ : Cmd) ds) w) := by
  obtain ⟨E, hE⟩ : ∃ E, doE M (⟨5, p, q, mode, ref, hp, hd⟩ : Cmd) ds = E := ⟨_, rfl⟩
  obtain ⟨M', hM'⟩ : ∃ M', doM M (⟨5, p, q, mode, ref, hp, hd⟩ : Cmd) ds = M' := ⟨_, rfl⟩
  rw [hE, hM']
  unfold doM at hM'
  rw [hE] at hM'
  unfold doE at hE
  rw [if_neg (by show ¬ isOp (5 : Int) = false; decide), if_neg (by show ¬ (5 : Int) = 9; decide)] at hE
  obtain ⟨F, hF⟩ : ∃ F, firstE false false (⟨5, p, q, mode, ref, hp, hd⟩ : Cmd) ds = F := ⟨_, rfl⟩
  rw [show firstE (toB (⟨5, p, q, mode, ref, hp, hd⟩ : Cmd).op) (modeB (⟨5, p, q, mode, ref, hp, hd⟩ : Cmd).op) (⟨5, p, q, mode, ref, hp, hd⟩ : Cmd) ds = F from hF] at hE
  have hrow : rowOf 5 = #[.bool false, .bool false, .func (.func 53) #[] #[]] := by simp [rowOf, rowV, fnV]
  have hrw := rows_any 5 (by decide)
  unfold RowRes at hrw
  rw [hrow, show isOp 5 = true by decide] at hrw
  have hfs := fun w h => first_any false false (⟨5, p, q, mode, ref, hp, hd⟩ : Cmd) (.func (.func 53) #[] #[]) SA sn sc ss ds w h
  rw [hF] at hfs
  unfold Cmd.cells at hfs
  have Hrw := Lib.hid hrw; have Hfs := Lib.hid hfs; have HM' := Lib.hid hM'
  clear hrw hfs hrow hM'
  have hA := h.keep (World.grownBy_alloc w (.cells #[.int .i64 5, .string p, .string q, .int .i64 mode, .int .i64 ref] 44) none)
  have hFr := Fr.alloc (.cells #[.int .i64 5, .string p, .string q, .int .i64 mode, .int .i64 ref] 44) h.size
  have hII := Blk.new w 44 #[.int .i64 5, .string p, .string q, .int .i64 mode, .int .i64 ref]
  have hS1 := hS.keep ((Below.refl w.heap.size w).alloc (Nat.le_refl _) (.cells #[.int .i64 5, .string p, .string q, .int .i64 mode, .int .i64 ref] 44))
  have HA := Lib.hid hA; have HS := Lib.hid hS1; have HSB := Lib.hid hSB; have HI := Lib.hid hI
  clear hA h hS hS1 hSB hI
  have HE := Lib.hid hE
  clear hE
  have i0 := hII.cell 0
  go_enter Try.func20, Try.ntmps20
  go_upto_region 6 with (first | (go_at_call 40; refine (Hrw.out _).mono ?_; rintro e w1 ⟨rfl, hb1⟩; have j0 := ((hII.below hb1 hII.lt).alloc (.cells #[.bool false, .bool false, .func (.func 53) #[] #[]] 90)).cell 0) | (refine wpList_store_new rfl 90 (.tmp 7) (.tmp 16) rfl 90 #[.bool false, .bool false, .nilFunc] #[.bool false, .bool false, .func (.func 53) #[] #[]] rfl rfl (by kernel_rfl) rfl (by kernel_rfl) ?_))
  have hz1 := hb1.size
  rw [World.size_alloc] at hz1
  have hA1 := (HA.out.keep (grown_below hb1 (Nat.le_refl _))).keep (World.grownBy_alloc w1 (.cells #[.bool false, .bool false, .func (.func 53) #[] #[]] 90) none)
  have hS1 := (HS.out.keep hb1).keep ((Below.refl w1.heap.size w1).alloc (Nat.le_refl _) (.cells #[.bool false, .bool false, .func (.func 53) #[] #[]] 90))
  replace hFr := (hFr.trans (Fr.of_below hb1 HA.out.size)).trans (Fr.alloc (.cells #[.bool false, .bool false, .func (.func 53) #[] #[]] 90) (HA.out.keep (grown_below hb1 (Nat.le_refl _))).size)
  replace hII := (hII.below hb1 hII.lt).alloc (.cells #[.bool false, .bool false, .func (.func 53) #[] #[]] 90)
  have hR := Blk.new w1 90 #[.bool false, .bool false, .func (.func 53) #[] #[]]
  obtain ⟨W1, hW1⟩ : ∃ W1, W1 = w1.alloc (.cells #[.bool false, .bool false, .func (.func 53) #[] #[]] 90) := ⟨_, rfl⟩
  have hrs : w1.heap.size < W1.heap.size := by rw [hW1]; simp
  rw [← hW1] at hA1 hS1 hFr hII hR ⊢
  replace HA := Lib.hid hA1; replace HS := Lib.hid hS1
  clear hW1 hA1 hS1 j0 i0 hb1
  have i0 := hII.cell 0
  have i1 := hII.cell 1
  have i2 := hII.cell 2
  have i3 := hII.cell 3
  have i4 := hII.cell 4
  have r0 := hR.cell 0
  have r1 := hR.cell 1
  have r2 := hR.cell 2
  by_cases hF0 : F = 0
  · subst hF0
    obtain ⟨f1, f2, f3, f4⟩ := first0 hF
    have HF := Lib.hid hF; have F1 := Lib.hid f1; have F2 := Lib.hid f2; have F3 := Lib.hid f3; have F4 := Lib.hid f4
    clear hF f1 f2 f3 f4
    have hE2 := HE.out
    rw [if_neg (by simp)] at hE2
    replace HE := Lib.hid hE2; clear hE2
    go_upto_region 9 with (go_at_call 41; refine (Hfs.out _ HS.out).mono ?_; rintro e w2 ⟨rfl, hb2⟩)
    have hA2 := HA.out.keep (grown_below hb2 (Nat.le_refl _))
    have hS2 := HS.out.keep hb2
    have hz2 := hb2.size
    replace hFr := hFr.trans (Fr.of_below hb2 HA.out.size)
    replace hII := hII.below hb2 hII.lt
    replace hR := hR.below hb2 hR.lt
    replace HA := Lib.hid hA2; replace HS := Lib.hid hS2
    clear hA2 hS2 i0 i1 i2 i3 i4 r0 r1 r2 hb2
    have i0 := hII.cell 0
    have i1 := hII.cell 1
    have i2 := hII.cell 2
    have i3 := hII.cell 3
    have i4 := hII.cell 4
    have r2 := hR.cell 2
    have hE4 := HE.out
    rw [if_neg (fun h => absurd h.1 (by show ¬ growB (5 : Int) = true; decide))] at hE4
    replace HE := Lib.hid hE4; clear hE4
    have hE3 := HE.out
    have hop : opE M (⟨5, p, q, mode, ref, hp, hd⟩ : Cmd) = filE M.nodes p := by unfold opE; simp
    rw [hop] at hE3
    have HE3 := Lib.hid hE3; clear hE3 hop
    have hcall := fun w hA => unlink_any B0 wb M s (⟨5, p, q, mode, ref, hp, hd⟩ : Cmd) none 0 0 F2.out w hA HI.out (by omega) (by omega) (by omega)
    have Hcall := Lib.hid hcall; clear hcall
    go_wp2_with (go_at_call 53; refine (Hcall.out _ HA.out).mono ?_; rintro e w5 ⟨rfl, hw5, hf5⟩)
    go_ret
    refine ⟨by rw [← HE3.out]; rfl, ?_, hFr.trans hf5⟩
    have hfin : (if filE M.nodes p = 0 then M.takeAt p else M) = M' := by
      rw [← HM'.out, ← HE3.out]
      by_cases hz : filE M.nodes p = 0
      · rw [if_pos hz, if_pos ⟨hz, by show ¬ (5 : Int) = 9; decide⟩, opM]
        simp
      · rw [if_neg hz, if_neg (fun h => hz h.1)]
    rw [← hfin]
    exact hw5.mono (by omega)
  · have hE2 := HE.out
    rw [if_pos hF0] at hE2
    subst hE2
    have HF := Lib.hid hF; clear hF
    obtain ⟨e1, e2⟩ := ne_b hF0
    have HF0 := Lib.hid hF0; clear hF0
    go_wp2_with (go_at_call 41; refine (Hfs.out _ HS.out).mono ?_; rintro e w2 ⟨rfl, hb2⟩)
    go_ret
    refine ⟨rfl, ?_, hFr.trans (Fr.of_below hb2 HA.out.size)⟩
    rw [← HM'.out, if_neg (fun h => HF0.out h.1)]
    exact (HA.out.keep (grown_below hb2 (Nat.le_refl _))).mono (by omega)
set_option maxRecDepth 100000 in
set_option maxHeartbeats 4000000 in
theorem do_6 (B0 wb : Nat) (M : PW) (s : Nat) (p q : ByteArray) (mode ref : Int) (hp : p.size ≤ 9223372036854775807) (hd : q.size ≤ 9223372036854775807) (SA : Option Addr) (sn sc : Nat) (ss : List SC) (ds : List ByteArray) (w : World) (h : WorldAt B0 w wb M s) (hI : M.Inv) (hs : s ≤ 800000) (hl : M.nodes.length ≤ 800000) (hn : M.next ≤ 800000) (hS : StockAt w SA sn ss ds) (hSB : Sl w B0 1 SA sn (ss.flatMap SC.list) ∧ ∀ (k : Nat) (x : SC) (d : ByteArray), ss[k]? = some x → ds[k]? = some d → Sl w B0 1 x.A x.n (bytesC d)) :
    Calls Try.prog 20 #[.pointer (some ⟨wb, 0, none⟩), .agg #[.int .i64 6, .string p, .string q, .int .i64 mode, .int .i64 ref], .slice SA sn sc] w (OpRes B0 wb (doM M (⟨6, p, q, mode, ref, hp, hd⟩ : Cmd) ds) (s + 2) (doE M (⟨6, p, q, mode, ref, hp, hd⟩ : Cmd) ds) w) := by
  obtain ⟨E, hE⟩ : ∃ E, doE M (⟨6, p, q, mode, ref, hp, hd⟩ : Cmd) ds = E := ⟨_, rfl⟩
  obtain ⟨M', hM'⟩ : ∃ M', doM M (⟨6, p, q, mode, ref, hp, hd⟩ : Cmd) ds = M' := ⟨_, rfl⟩
  rw [hE, hM']
  unfold doM at hM'
  rw [hE] at hM'
  unfold doE at hE
  rw [if_neg (by show ¬ isOp (6 : Int) = false; decide), if_neg (by show ¬ (6 : Int) = 9; decide)] at hE
  obtain ⟨F, hF⟩ : ∃ F, firstE false true (⟨6, p, q, mode, ref, hp, hd⟩ : Cmd) ds = F := ⟨_, rfl⟩
  rw [show firstE (toB (⟨6, p, q, mode, ref, hp, hd⟩ : Cmd).op) (modeB (⟨6, p, q, mode, ref, hp, hd⟩ : Cmd).op) (⟨6, p, q, mode, ref, hp, hd⟩ : Cmd) ds = F from hF] at hE
  have hrow : rowOf 6 = #[.bool false, .bool true, .func (.func 54) #[] #[]] := by simp [rowOf, rowV, fnV]
  have hrw := rows_any 6 (by decide)
  unfold RowRes at hrw
  rw [hrow, show isOp 6 = true by decide] at hrw
  have hfs := fun w h => first_any false true (⟨6, p, q, mode, ref, hp, hd⟩ : Cmd) (.func (.func 54) #[] #[]) SA sn sc ss ds w h
  rw [hF] at hfs
  unfold Cmd.cells at hfs
  have Hrw := Lib.hid hrw; have Hfs := Lib.hid hfs; have HM' := Lib.hid hM'
  clear hrw hfs hrow hM'
  have hA := h.keep (World.grownBy_alloc w (.cells #[.int .i64 6, .string p, .string q, .int .i64 mode, .int .i64 ref] 44) none)
  have hFr := Fr.alloc (.cells #[.int .i64 6, .string p, .string q, .int .i64 mode, .int .i64 ref] 44) h.size
  have hII := Blk.new w 44 #[.int .i64 6, .string p, .string q, .int .i64 mode, .int .i64 ref]
  have hS1 := hS.keep ((Below.refl w.heap.size w).alloc (Nat.le_refl _) (.cells #[.int .i64 6, .string p, .string q, .int .i64 mode, .int .i64 ref] 44))
  have HA := Lib.hid hA; have HS := Lib.hid hS1; have HSB := Lib.hid hSB; have HI := Lib.hid hI
  clear hA h hS hS1 hSB hI
  have HE := Lib.hid hE
  clear hE
  have i0 := hII.cell 0
  go_enter Try.func20, Try.ntmps20
  go_upto_region 6 with (first | (go_at_call 40; refine (Hrw.out _).mono ?_; rintro e w1 ⟨rfl, hb1⟩; have j0 := ((hII.below hb1 hII.lt).alloc (.cells #[.bool false, .bool true, .func (.func 54) #[] #[]] 90)).cell 0) | (refine wpList_store_new rfl 90 (.tmp 7) (.tmp 16) rfl 90 #[.bool false, .bool false, .nilFunc] #[.bool false, .bool true, .func (.func 54) #[] #[]] rfl rfl (by kernel_rfl) rfl (by kernel_rfl) ?_))
  have hz1 := hb1.size
  rw [World.size_alloc] at hz1
  have hA1 := (HA.out.keep (grown_below hb1 (Nat.le_refl _))).keep (World.grownBy_alloc w1 (.cells #[.bool false, .bool true, .func (.func 54) #[] #[]] 90) none)
  have hS1 := (HS.out.keep hb1).keep ((Below.refl w1.heap.size w1).alloc (Nat.le_refl _) (.cells #[.bool false, .bool true, .func (.func 54) #[] #[]] 90))
  replace hFr := (hFr.trans (Fr.of_below hb1 HA.out.size)).trans (Fr.alloc (.cells #[.bool false, .bool true, .func (.func 54) #[] #[]] 90) (HA.out.keep (grown_below hb1 (Nat.le_refl _))).size)
  replace hII := (hII.below hb1 hII.lt).alloc (.cells #[.bool false, .bool true, .func (.func 54) #[] #[]] 90)
  have hR := Blk.new w1 90 #[.bool false, .bool true, .func (.func 54) #[] #[]]
  obtain ⟨W1, hW1⟩ : ∃ W1, W1 = w1.alloc (.cells #[.bool false, .bool true, .func (.func 54) #[] #[]] 90) := ⟨_, rfl⟩
  have hrs : w1.heap.size < W1.heap.size := by rw [hW1]; simp
  rw [← hW1] at hA1 hS1 hFr hII hR ⊢
  replace HA := Lib.hid hA1; replace HS := Lib.hid hS1
  clear hW1 hA1 hS1 j0 i0 hb1
  have i0 := hII.cell 0
  have i1 := hII.cell 1
  have i2 := hII.cell 2
  have i3 := hII.cell 3
  have i4 := hII.cell 4
  have r0 := hR.cell 0
  have r1 := hR.cell 1
  have r2 := hR.cell 2
  by_cases hF0 : F = 0
  · subst hF0
    obtain ⟨f1, f2, f3, f4⟩ := first0 hF
    have HF := Lib.hid hF; have F1 := Lib.hid f1; have F2 := Lib.hid f2; have F3 := Lib.hid f3; have F4 := Lib.hid f4
    clear hF f1 f2 f3 f4
    have hE2 := HE.out
    rw [if_neg (by simp)] at hE2
    replace HE := Lib.hid hE2; clear hE2
    go_upto_region 9 with (go_at_call 41; refine (Hfs.out _ HS.out).mono ?_; rintro e w2 ⟨rfl, hb2⟩)
    have hA2 := HA.out.keep (grown_below hb2 (Nat.le_refl _))
    have hS2 := HS.out.keep hb2
    have hz2 := hb2.size
    replace hFr := hFr.trans (Fr.of_below hb2 HA.out.size)
    replace hII := hII.below hb2 hII.lt
    replace hR := hR.below hb2 hR.lt
    replace HA := Lib.hid hA2; replace HS := Lib.hid hS2
    clear hA2 hS2 i0 i1 i2 i3 i4 r0 r1 r2 hb2
    have i0 := hII.cell 0
    have i1 := hII.cell 1
    have i2 := hII.cell 2
    have i3 := hII.cell 3
    have i4 := hII.cell 4
    have r2 := hR.cell 2
    obtain ⟨g1, g2, g3⟩ := F4.out (by trivial)
    replace g1 : 0 ≤ ref := g1
    replace g2 : ref < ds.length := g2
    obtain ⟨r, hr⟩ : ∃ r : Nat, ref = r := ⟨ref.toNat, by omega⟩
    subst hr
    have hdl := HS.out.dlen
    have hrl : r < sn := by omega
    obtain ⟨b, off, x, hSA, hbl, hx, hc⟩ := HS.out.sl.get SC.len HS.out.len hrl
    obtain ⟨d, hdd⟩ : ∃ d, ds[r]? = some d := ⟨ds[r]'(by omega), List.getElem?_eq_getElem _⟩
    have hrd : refData (⟨6, p, q, mode, r, hp, hd⟩ : Cmd) ds = d := by rw [refData]; show (ds[((r : Nat) : Int).toNat]?).getD ByteArray.empty = d; rw [Int.toNat_natCast, hdd]; rfl
    have hdz := (HS.out.dat r x d hx hdd).1
    have hSx := (HSB.out.2 r x d hx hdd).below hFr.below (Nat.le_refl _)
    have c0 := hc 0 _ rfl
    simp only [Nat.add_zero, Nat.mul_one] at c0
    subst hSA
    have Hrd := Lib.hid hrd; have Hdz := Lib.hid hdz; have HSx := Lib.hid hSx
    have hri : (r : Int) < sn := by omega
    clear hx hdd hc hrd hdz hSx g2 g3 hdl hbl
    obtain ⟨nb, fb, kb, ms, kl, hM, _⟩ := HA.out
    have b0 := hM.blk.cell 0
    have hwl := hM.blk.lt
    have hln := fun ty => hM.nodes.len Try.mtNodes ty
    obtain ⟨nl, hnl⟩ : ∃ nl, M.nodes.length = nl := ⟨_, rfl⟩
    have Hnl : Hid ((nodesE M.nodes).length = nl) := Lib.hid (by simp [nodesE, hnl])
    have hE4 := HE.out
    rw [hnl] at hE4
    have hnl2 : nl ≤ 800000 := by omega
    rw [Hnl.out] at hln
    clear hnl HE
    by_cases h256 : 256 ≤ nl
    · rw [if_pos ⟨rfl, h256⟩] at hE4
      have hK := fun w h => full_6 B0 wb M s p q mode r hp hd F2.out w h
      rw [hE4] at hK
      have HK := Lib.hid hK; have HE := Lib.hid hE4; clear hK hE4
      have h256' : (256 : Int) ≤ nl := by omega
      go_wp2_with ((go_at_call 42; refine (HK.out _ HA.out).mono ?_; rintro e w4 ⟨rfl, hb4⟩))
      go_ret
      refine ⟨rfl, ?_, hFr.trans (Fr.of_below hb4 HA.out.size)⟩
      have hEn : ¬ E = 0 := by rw [← HE.out]; exact full_ne _ _
      rw [← HM'.out, if_neg (fun h => hEn h.1)]
      exact (HA.out.keep (grown_below hb4 (Nat.le_refl _))).mono (by omega)
    · rw [if_neg (fun h => h256 h.2)] at hE4
      have HE := Lib.hid hE4; clear hE4
      have h256' : ¬ (256 : Int) ≤ nl := by omega
      have hE3 := HE.out
      have hop : opE M (⟨6, p, q, mode, r, hp, hd⟩ : Cmd) = absE M.nodes p := by unfold opE; simp
      rw [hop] at hE3
      have HE3 := Lib.hid hE3; clear hE3 hop
      have hcall := write_any B0 wb M s (⟨6, p, q, mode, r, hp, hd⟩ : Cmd) d x.A x.n x.c F2.out _ HA.out HI.out (by omega) (by omega) (by omega) Hdz.out HSx.out
      have Hcall := Lib.hid hcall; clear hcall
      go_wp2_with (go_at_call 54; refine Hcall.out.mono ?_; rintro e w5 ⟨rfl, hw5, hf5⟩)
      go_ret
      refine ⟨by rw [← HE3.out]; rfl, ?_, hFr.trans hf5⟩
      have hfin : (if absE M.nodes p = 0 then M.made p hp mode d else M) = M' := by
        rw [← HM'.out, ← HE3.out]
        by_cases hz : absE M.nodes p = 0
        · rw [if_pos hz, if_pos ⟨hz, by show ¬ (6 : Int) = 9; decide⟩, opM]
          simp [Hrd.out]
        · rw [if_neg hz, if_neg (fun h => hz h.1)]
      rw [← hfin]
      exact hw5.mono (by omega)
  · have hE2 := HE.out
    rw [if_pos hF0] at hE2
    subst hE2
    have HF := Lib.hid hF; clear hF
    obtain ⟨e1, e2⟩ := ne_b hF0
    have HF0 := Lib.hid hF0; clear hF0
    go_wp2_with (go_at_call 41; refine (Hfs.out _ HS.out).mono ?_; rintro e w2 ⟨rfl, hb2⟩)
    go_ret
    refine ⟨rfl, ?_, hFr.trans (Fr.of_below hb2 HA.out.size)⟩
    rw [← HM'.out, if_neg (fun h => HF0.out h.1)]
    exact (HA.out.keep (grown_below hb2 (Nat.le_refl _))).mono (by omega)
set_option maxRecDepth 100000 in
set_option maxHeartbeats 4000000 in
theorem do_7 (B0 wb : Nat) (M : PW) (s : Nat) (p q : ByteArray) (mode ref : Int) (hp : p.size ≤ 9223372036854775807) (hd : q.size ≤ 9223372036854775807) (SA : Option Addr) (sn sc : Nat) (ss : List SC) (ds : List ByteArray) (w : World) (h : WorldAt B0 w wb M s) (hI : M.Inv) (hs : s ≤ 800000) (hl : M.nodes.length ≤ 800000) (hn : M.next ≤ 800000) (hS : StockAt w SA sn ss ds) (hSB : Sl w B0 1 SA sn (ss.flatMap SC.list) ∧ ∀ (k : Nat) (x : SC) (d : ByteArray), ss[k]? = some x → ds[k]? = some d → Sl w B0 1 x.A x.n (bytesC d)) :
    Calls Try.prog 20 #[.pointer (some ⟨wb, 0, none⟩), .agg #[.int .i64 7, .string p, .string q, .int .i64 mode, .int .i64 ref], .slice SA sn sc] w (OpRes B0 wb (doM M (⟨7, p, q, mode, ref, hp, hd⟩ : Cmd) ds) (s + 2) (doE M (⟨7, p, q, mode, ref, hp, hd⟩ : Cmd) ds) w) := by
  obtain ⟨E, hE⟩ : ∃ E, doE M (⟨7, p, q, mode, ref, hp, hd⟩ : Cmd) ds = E := ⟨_, rfl⟩
  obtain ⟨M', hM'⟩ : ∃ M', doM M (⟨7, p, q, mode, ref, hp, hd⟩ : Cmd) ds = M' := ⟨_, rfl⟩
  rw [hE, hM']
  unfold doM at hM'
  rw [hE] at hM'
  unfold doE at hE
  rw [if_neg (by show ¬ isOp (7 : Int) = false; decide), if_neg (by show ¬ (7 : Int) = 9; decide)] at hE
  obtain ⟨F, hF⟩ : ∃ F, firstE true true (⟨7, p, q, mode, ref, hp, hd⟩ : Cmd) ds = F := ⟨_, rfl⟩
  rw [show firstE (toB (⟨7, p, q, mode, ref, hp, hd⟩ : Cmd).op) (modeB (⟨7, p, q, mode, ref, hp, hd⟩ : Cmd).op) (⟨7, p, q, mode, ref, hp, hd⟩ : Cmd) ds = F from hF] at hE
  have hrow : rowOf 7 = #[.bool true, .bool true, .func (.func 55) #[] #[]] := by simp [rowOf, rowV, fnV]
  have hrw := rows_any 7 (by decide)
  unfold RowRes at hrw
  rw [hrow, show isOp 7 = true by decide] at hrw
  have hfs := fun w h => first_any true true (⟨7, p, q, mode, ref, hp, hd⟩ : Cmd) (.func (.func 55) #[] #[]) SA sn sc ss ds w h
  rw [hF] at hfs
  unfold Cmd.cells at hfs
  have Hrw := Lib.hid hrw; have Hfs := Lib.hid hfs; have HM' := Lib.hid hM'
  clear hrw hfs hrow hM'
  have hA := h.keep (World.grownBy_alloc w (.cells #[.int .i64 7, .string p, .string q, .int .i64 mode, .int .i64 ref] 44) none)
  have hFr := Fr.alloc (.cells #[.int .i64 7, .string p, .string q, .int .i64 mode, .int .i64 ref] 44) h.size
  have hII := Blk.new w 44 #[.int .i64 7, .string p, .string q, .int .i64 mode, .int .i64 ref]
  have hS1 := hS.keep ((Below.refl w.heap.size w).alloc (Nat.le_refl _) (.cells #[.int .i64 7, .string p, .string q, .int .i64 mode, .int .i64 ref] 44))
  have HA := Lib.hid hA; have HS := Lib.hid hS1; have HSB := Lib.hid hSB; have HI := Lib.hid hI
  clear hA h hS hS1 hSB hI
  have HE := Lib.hid hE
  clear hE
  have i0 := hII.cell 0
  go_enter Try.func20, Try.ntmps20
  go_upto_region 6 with (first | (go_at_call 40; refine (Hrw.out _).mono ?_; rintro e w1 ⟨rfl, hb1⟩; have j0 := ((hII.below hb1 hII.lt).alloc (.cells #[.bool true, .bool true, .func (.func 55) #[] #[]] 90)).cell 0) | (refine wpList_store_new rfl 90 (.tmp 7) (.tmp 16) rfl 90 #[.bool false, .bool false, .nilFunc] #[.bool true, .bool true, .func (.func 55) #[] #[]] rfl rfl (by kernel_rfl) rfl (by kernel_rfl) ?_))
  have hz1 := hb1.size
  rw [World.size_alloc] at hz1
  have hA1 := (HA.out.keep (grown_below hb1 (Nat.le_refl _))).keep (World.grownBy_alloc w1 (.cells #[.bool true, .bool true, .func (.func 55) #[] #[]] 90) none)
  have hS1 := (HS.out.keep hb1).keep ((Below.refl w1.heap.size w1).alloc (Nat.le_refl _) (.cells #[.bool true, .bool true, .func (.func 55) #[] #[]] 90))
  replace hFr := (hFr.trans (Fr.of_below hb1 HA.out.size)).trans (Fr.alloc (.cells #[.bool true, .bool true, .func (.func 55) #[] #[]] 90) (HA.out.keep (grown_below hb1 (Nat.le_refl _))).size)
  replace hII := (hII.below hb1 hII.lt).alloc (.cells #[.bool true, .bool true, .func (.func 55) #[] #[]] 90)
  have hR := Blk.new w1 90 #[.bool true, .bool true, .func (.func 55) #[] #[]]
  obtain ⟨W1, hW1⟩ : ∃ W1, W1 = w1.alloc (.cells #[.bool true, .bool true, .func (.func 55) #[] #[]] 90) := ⟨_, rfl⟩
  have hrs : w1.heap.size < W1.heap.size := by rw [hW1]; simp
  rw [← hW1] at hA1 hS1 hFr hII hR ⊢
  replace HA := Lib.hid hA1; replace HS := Lib.hid hS1
  clear hW1 hA1 hS1 j0 i0 hb1
  have i0 := hII.cell 0
  have i1 := hII.cell 1
  have i2 := hII.cell 2
  have i3 := hII.cell 3
  have i4 := hII.cell 4
  have r0 := hR.cell 0
  have r1 := hR.cell 1
  have r2 := hR.cell 2
  by_cases hF0 : F = 0
  · subst hF0
    obtain ⟨f1, f2, f3, f4⟩ := first0 hF
    have HF := Lib.hid hF; have F1 := Lib.hid f1; have F2 := Lib.hid f2; have F3 := Lib.hid f3; have F4 := Lib.hid f4
    clear hF f1 f2 f3 f4
    have hE2 := HE.out
    rw [if_neg (by simp)] at hE2
    replace HE := Lib.hid hE2; clear hE2
    go_upto_region 9 with (go_at_call 41; refine (Hfs.out _ HS.out).mono ?_; rintro e w2 ⟨rfl, hb2⟩)
    have hA2 := HA.out.keep (grown_below hb2 (Nat.le_refl _))
    have hS2 := HS.out.keep hb2
    have hz2 := hb2.size
    replace hFr := hFr.trans (Fr.of_below hb2 HA.out.size)
    replace hII := hII.below hb2 hII.lt
    replace hR := hR.below hb2 hR.lt
    replace HA := Lib.hid hA2; replace HS := Lib.hid hS2
    clear hA2 hS2 i0 i1 i2 i3 i4 r0 r1 r2 hb2
    have i0 := hII.cell 0
    have i1 := hII.cell 1
    have i2 := hII.cell 2
    have i3 := hII.cell 3
    have i4 := hII.cell 4
    have r2 := hR.cell 2
    obtain ⟨nb, fb, kb, ms, kl, hM, _⟩ := HA.out
    have b0 := hM.blk.cell 0
    have hwl := hM.blk.lt
    have hln := fun ty => hM.nodes.len Try.mtNodes ty
    obtain ⟨nl, hnl⟩ : ∃ nl, M.nodes.length = nl := ⟨_, rfl⟩
    have Hnl : Hid ((nodesE M.nodes).length = nl) := Lib.hid (by simp [nodesE, hnl])
    have hE4 := HE.out
    rw [hnl] at hE4
    have hnl2 : nl ≤ 800000 := by omega
    rw [Hnl.out] at hln
    clear hnl HE
    by_cases h256 : 256 ≤ nl
    · rw [if_pos ⟨rfl, h256⟩] at hE4
      have hK := fun w h => full_7 B0 wb M s p q mode ref hp hd F2.out (F3.out (by trivial)) w h
      rw [hE4] at hK
      have HK := Lib.hid hK; have HE := Lib.hid hE4; clear hK hE4
      have h256' : (256 : Int) ≤ nl := by omega
      go_wp2_with ((go_at_call 42; refine (HK.out _ HA.out).mono ?_; rintro e w4 ⟨rfl, hb4⟩))
      go_ret
      refine ⟨rfl, ?_, hFr.trans (Fr.of_below hb4 HA.out.size)⟩
      have hEn : ¬ E = 0 := by rw [← HE.out]; exact full_ne _ _
      rw [← HM'.out, if_neg (fun h => hEn h.1)]
      exact (HA.out.keep (grown_below hb4 (Nat.le_refl _))).mono (by omega)
    · rw [if_neg (fun h => h256 h.2)] at hE4
      have HE := Lib.hid hE4; clear hE4
      have h256' : ¬ (256 : Int) ≤ nl := by omega
      have hE3 := HE.out
      have hop : opE M (⟨7, p, q, mode, ref, hp, hd⟩ : Cmd) = bothE M.nodes p q := by unfold opE; simp
      rw [hop] at hE3
      have HE3 := Lib.hid hE3; clear hE3 hop
      have hcall := fun w hA => dup_any B0 wb M s (⟨7, p, q, mode, ref, hp, hd⟩ : Cmd) none 0 0 F2.out (F3.out (by trivial)) w hA HI.out (by omega) (by omega) (by omega)
      have Hcall := Lib.hid hcall; clear hcall
      go_wp2_with (go_at_call 55; refine (Hcall.out _ HA.out).mono ?_; rintro e w5 ⟨rfl, hw5, hf5⟩)
      go_ret
      refine ⟨by rw [← HE3.out]; rfl, ?_, hFr.trans hf5⟩
      have hfin : (if bothE M.nodes p q = 0 then M.made q hd mode (dataOf M (lookF M.nodes p)) else M) = M' := by
        rw [← HM'.out, ← HE3.out]
        by_cases hz : bothE M.nodes p q = 0
        · rw [if_pos hz, if_pos ⟨hz, by show ¬ (7 : Int) = 9; decide⟩, opM]
          simp
        · rw [if_neg hz, if_neg (fun h => hz h.1)]
      rw [← hfin]
      exact hw5.mono (by omega)
  · have hE2 := HE.out
    rw [if_pos hF0] at hE2
    subst hE2
    have HF := Lib.hid hF; clear hF
    obtain ⟨e1, e2⟩ := ne_b hF0
    have HF0 := Lib.hid hF0; clear hF0
    go_wp2_with (go_at_call 41; refine (Hfs.out _ HS.out).mono ?_; rintro e w2 ⟨rfl, hb2⟩)
    go_ret
    refine ⟨rfl, ?_, hFr.trans (Fr.of_below hb2 HA.out.size)⟩
    rw [← HM'.out, if_neg (fun h => HF0.out h.1)]
    exact (HA.out.keep (grown_below hb2 (Nat.le_refl _))).mono (by omega)
set_option maxRecDepth 100000 in
set_option maxHeartbeats 4000000 in
theorem do_8 (B0 wb : Nat) (M : PW) (s : Nat) (p q : ByteArray) (mode ref : Int) (hp : p.size ≤ 9223372036854775807) (hd : q.size ≤ 9223372036854775807) (SA : Option Addr) (sn sc : Nat) (ss : List SC) (ds : List ByteArray) (w : World) (h : WorldAt B0 w wb M s) (hI : M.Inv) (hs : s ≤ 800000) (hl : M.nodes.length ≤ 800000) (hn : M.next ≤ 800000) (hS : StockAt w SA sn ss ds) (hSB : Sl w B0 1 SA sn (ss.flatMap SC.list) ∧ ∀ (k : Nat) (x : SC) (d : ByteArray), ss[k]? = some x → ds[k]? = some d → Sl w B0 1 x.A x.n (bytesC d)) :
    Calls Try.prog 20 #[.pointer (some ⟨wb, 0, none⟩), .agg #[.int .i64 8, .string p, .string q, .int .i64 mode, .int .i64 ref], .slice SA sn sc] w (OpRes B0 wb (doM M (⟨8, p, q, mode, ref, hp, hd⟩ : Cmd) ds) (s + 2) (doE M (⟨8, p, q, mode, ref, hp, hd⟩ : Cmd) ds) w) := by
  obtain ⟨E, hE⟩ : ∃ E, doE M (⟨8, p, q, mode, ref, hp, hd⟩ : Cmd) ds = E := ⟨_, rfl⟩
  obtain ⟨M', hM'⟩ : ∃ M', doM M (⟨8, p, q, mode, ref, hp, hd⟩ : Cmd) ds = M' := ⟨_, rfl⟩
  rw [hE, hM']
  unfold doM at hM'
  rw [hE] at hM'
  unfold doE at hE
  rw [if_neg (by show ¬ isOp (8 : Int) = false; decide), if_neg (by show ¬ (8 : Int) = 9; decide)] at hE
  obtain ⟨F, hF⟩ : ∃ F, firstE false true (⟨8, p, q, mode, ref, hp, hd⟩ : Cmd) ds = F := ⟨_, rfl⟩
  rw [show firstE (toB (⟨8, p, q, mode, ref, hp, hd⟩ : Cmd).op) (modeB (⟨8, p, q, mode, ref, hp, hd⟩ : Cmd).op) (⟨8, p, q, mode, ref, hp, hd⟩ : Cmd) ds = F from hF] at hE
  have hrow : rowOf 8 = #[.bool false, .bool true, .func (.func 56) #[] #[]] := by simp [rowOf, rowV, fnV]
  have hrw := rows_any 8 (by decide)
  unfold RowRes at hrw
  rw [hrow, show isOp 8 = true by decide] at hrw
  have hfs := fun w h => first_any false true (⟨8, p, q, mode, ref, hp, hd⟩ : Cmd) (.func (.func 56) #[] #[]) SA sn sc ss ds w h
  rw [hF] at hfs
  unfold Cmd.cells at hfs
  have Hrw := Lib.hid hrw; have Hfs := Lib.hid hfs; have HM' := Lib.hid hM'
  clear hrw hfs hrow hM'
  have hA := h.keep (World.grownBy_alloc w (.cells #[.int .i64 8, .string p, .string q, .int .i64 mode, .int .i64 ref] 44) none)
  have hFr := Fr.alloc (.cells #[.int .i64 8, .string p, .string q, .int .i64 mode, .int .i64 ref] 44) h.size
  have hII := Blk.new w 44 #[.int .i64 8, .string p, .string q, .int .i64 mode, .int .i64 ref]
  have hS1 := hS.keep ((Below.refl w.heap.size w).alloc (Nat.le_refl _) (.cells #[.int .i64 8, .string p, .string q, .int .i64 mode, .int .i64 ref] 44))
  have HA := Lib.hid hA; have HS := Lib.hid hS1; have HSB := Lib.hid hSB; have HI := Lib.hid hI
  clear hA h hS hS1 hSB hI
  have HE := Lib.hid hE
  clear hE
  have i0 := hII.cell 0
  go_enter Try.func20, Try.ntmps20
  go_upto_region 6 with (first | (go_at_call 40; refine (Hrw.out _).mono ?_; rintro e w1 ⟨rfl, hb1⟩; have j0 := ((hII.below hb1 hII.lt).alloc (.cells #[.bool false, .bool true, .func (.func 56) #[] #[]] 90)).cell 0) | (refine wpList_store_new rfl 90 (.tmp 7) (.tmp 16) rfl 90 #[.bool false, .bool false, .nilFunc] #[.bool false, .bool true, .func (.func 56) #[] #[]] rfl rfl (by kernel_rfl) rfl (by kernel_rfl) ?_))
  have hz1 := hb1.size
  rw [World.size_alloc] at hz1
  have hA1 := (HA.out.keep (grown_below hb1 (Nat.le_refl _))).keep (World.grownBy_alloc w1 (.cells #[.bool false, .bool true, .func (.func 56) #[] #[]] 90) none)
  have hS1 := (HS.out.keep hb1).keep ((Below.refl w1.heap.size w1).alloc (Nat.le_refl _) (.cells #[.bool false, .bool true, .func (.func 56) #[] #[]] 90))
  replace hFr := (hFr.trans (Fr.of_below hb1 HA.out.size)).trans (Fr.alloc (.cells #[.bool false, .bool true, .func (.func 56) #[] #[]] 90) (HA.out.keep (grown_below hb1 (Nat.le_refl _))).size)
  replace hII := (hII.below hb1 hII.lt).alloc (.cells #[.bool false, .bool true, .func (.func 56) #[] #[]] 90)
  have hR := Blk.new w1 90 #[.bool false, .bool true, .func (.func 56) #[] #[]]
  obtain ⟨W1, hW1⟩ : ∃ W1, W1 = w1.alloc (.cells #[.bool false, .bool true, .func (.func 56) #[] #[]] 90) := ⟨_, rfl⟩
  have hrs : w1.heap.size < W1.heap.size := by rw [hW1]; simp
  rw [← hW1] at hA1 hS1 hFr hII hR ⊢
  replace HA := Lib.hid hA1; replace HS := Lib.hid hS1
  clear hW1 hA1 hS1 j0 i0 hb1
  have i0 := hII.cell 0
  have i1 := hII.cell 1
  have i2 := hII.cell 2
  have i3 := hII.cell 3
  have i4 := hII.cell 4
  have r0 := hR.cell 0
  have r1 := hR.cell 1
  have r2 := hR.cell 2
  by_cases hF0 : F = 0
  · subst hF0
    obtain ⟨f1, f2, f3, f4⟩ := first0 hF
    have HF := Lib.hid hF; have F1 := Lib.hid f1; have F2 := Lib.hid f2; have F3 := Lib.hid f3; have F4 := Lib.hid f4
    clear hF f1 f2 f3 f4
    have hE2 := HE.out
    rw [if_neg (by simp)] at hE2
    replace HE := Lib.hid hE2; clear hE2
    go_upto_region 9 with (go_at_call 41; refine (Hfs.out _ HS.out).mono ?_; rintro e w2 ⟨rfl, hb2⟩)
    have hA2 := HA.out.keep (grown_below hb2 (Nat.le_refl _))
    have hS2 := HS.out.keep hb2
    have hz2 := hb2.size
    replace hFr := hFr.trans (Fr.of_below hb2 HA.out.size)
    replace hII := hII.below hb2 hII.lt
    replace hR := hR.below hb2 hR.lt
    replace HA := Lib.hid hA2; replace HS := Lib.hid hS2
    clear hA2 hS2 i0 i1 i2 i3 i4 r0 r1 r2 hb2
    have i0 := hII.cell 0
    have i1 := hII.cell 1
    have i2 := hII.cell 2
    have i3 := hII.cell 3
    have i4 := hII.cell 4
    have r2 := hR.cell 2
    have hE4 := HE.out
    rw [if_neg (fun h => absurd h.1 (by show ¬ growB (8 : Int) = true; decide))] at hE4
    replace HE := Lib.hid hE4; clear hE4
    have hE3 := HE.out
    have hop : opE M (⟨8, p, q, mode, ref, hp, hd⟩ : Cmd) = preE M.nodes p := by unfold opE; simp
    rw [hop] at hE3
    have HE3 := Lib.hid hE3; clear hE3 hop
    have hcall := fun w hA => chmod_any B0 wb M s (⟨8, p, q, mode, ref, hp, hd⟩ : Cmd) none 0 0 F2.out w hA HI.out (by omega) (by omega) (by omega)
    have Hcall := Lib.hid hcall; clear hcall
    go_wp2_with (go_at_call 56; refine (Hcall.out _ HA.out).mono ?_; rintro e w5 ⟨rfl, hw5, hf5⟩)
    go_ret
    refine ⟨by rw [← HE3.out]; rfl, ?_, hFr.trans hf5⟩
    have hfin : (if preE M.nodes p = 0 then M.chmod p mode else M) = M' := by
      rw [← HM'.out, ← HE3.out]
      by_cases hz : preE M.nodes p = 0
      · rw [if_pos hz, if_pos ⟨hz, by show ¬ (8 : Int) = 9; decide⟩, opM]
        simp
      · rw [if_neg hz, if_neg (fun h => hz h.1)]
    rw [← hfin]
    exact hw5.mono (by omega)
  · have hE2 := HE.out
    rw [if_pos hF0] at hE2
    subst hE2
    have HF := Lib.hid hF; clear hF
    obtain ⟨e1, e2⟩ := ne_b hF0
    have HF0 := Lib.hid hF0; clear hF0
    go_wp2_with (go_at_call 41; refine (Hfs.out _ HS.out).mono ?_; rintro e w2 ⟨rfl, hb2⟩)
    go_ret
    refine ⟨rfl, ?_, hFr.trans (Fr.of_below hb2 HA.out.size)⟩
    rw [← HM'.out, if_neg (fun h => HF0.out h.1)]
    exact (HA.out.keep (grown_below hb2 (Nat.le_refl _))).mono (by omega)
set_option maxRecDepth 100000 in
set_option maxHeartbeats 4000000 in
theorem do_9 (B0 wb : Nat) (M : PW) (s : Nat) (c : Cmd) (ho : c.op = 9) (hop : -9223372036854775808 ≤ c.op ∧ c.op ≤ 9223372036854775807) (SA : Option Addr) (sn sc : Nat) (w : World) (h : WorldAt B0 w wb M s) :
    Calls Try.prog 20 #[.pointer (some ⟨wb, 0, none⟩), .agg c.cells, .slice SA sn sc] w (OpRes B0 wb M s 0 w) := by
  have hrw := rows_any c.op hop
  unfold RowRes at hrw
  have hrow : rowOf c.op = #[.bool false, .bool false, .nilFunc] := by rw [ho]; simp [rowOf, rowV]
  rw [hrow, show isOp c.op = true by rw [ho]; decide] at hrw
  have O9 := (beq_iff_eq (a := c.op) (b := 9)).2 ho
  have Hrw := Lib.hid hrw; have Ho := Lib.hid ho; clear hrw ho hrow
  unfold Cmd.cells
  have hA := h.keep (World.grownBy_alloc w (.cells #[.int .i64 c.op, .string c.path, .string c.dst, .int .i64 c.mode, .int .i64 c.ref] 44) none)
  have hFr := Fr.alloc (.cells #[.int .i64 c.op, .string c.path, .string c.dst, .int .i64 c.mode, .int .i64 c.ref] 44) h.size
  have hII := Blk.new w 44 #[.int .i64 c.op, .string c.path, .string c.dst, .int .i64 c.mode, .int .i64 c.ref]
  have HA := Lib.hid hA; clear hA h
  have i0 := hII.cell 0
  go_enter Try.func20, Try.ntmps20
  go_wp2_with (first | (go_at_call 40; refine (Hrw.out _).mono ?_; rintro e w1 ⟨rfl, hb1⟩; have j0 := ((hII.below hb1 hII.lt).alloc (.cells #[.bool false, .bool false, .nilFunc] 90)).cell 0; have HA1 := Lib.hid ((HA.out.keep (grown_below hb1 (Nat.le_refl _))).keep (World.grownBy_alloc w1 (.cells #[.bool false, .bool false, .nilFunc] 90) none)); have HF1 := Lib.hid ((hFr.trans (Fr.of_below hb1 HA.out.size)).trans (Fr.alloc (.cells #[.bool false, .bool false, .nilFunc] 90) (HA.out.keep (grown_below hb1 (Nat.le_refl _))).size))) | (refine wpList_store_new rfl 90 (.tmp 7) (.tmp 16) rfl 90 #[.bool false, .bool false, .nilFunc] #[.bool false, .bool false, .nilFunc] rfl rfl (by kernel_rfl) rfl (by kernel_rfl) ?_))
  go_ret
  exact ⟨rfl, HA1.out, HF1.out⟩
set_option maxRecDepth 100000 in
set_option maxHeartbeats 4000000 in
theorem do_bad (B0 wb : Nat) (M : PW) (s : Nat) (c : Cmd) (ho : isOp c.op = false) (hop : -9223372036854775808 ≤ c.op ∧ c.op ≤ 9223372036854775807) (SA : Option Addr) (sn sc : Nat) (w : World) (h : WorldAt B0 w wb M s) :
    Calls Try.prog 20 #[.pointer (some ⟨wb, 0, none⟩), .agg c.cells, .slice SA sn sc] w (OpRes B0 wb M s 34 w) := by
  have hrw := rows_any c.op hop
  unfold RowRes at hrw
  have hrow : rowOf c.op = #[.bool false, .bool false, .nilFunc] := by
    simp only [isOp, decide_eq_false_iff_not] at ho
    unfold rowOf
    rw [if_neg (by omega), if_neg (by omega), if_neg (by omega), if_neg (by omega), if_neg (by omega), if_neg (by omega), if_neg (by omega), if_neg (by omega)]
    rfl
  rw [hrow, ho] at hrw
  have Hrw := Lib.hid hrw; have Ho := Lib.hid ho; clear hrw ho hrow
  unfold Cmd.cells
  have hA := h.keep (World.grownBy_alloc w (.cells #[.int .i64 c.op, .string c.path, .string c.dst, .int .i64 c.mode, .int .i64 c.ref] 44) none)
  have hFr := Fr.alloc (.cells #[.int .i64 c.op, .string c.path, .string c.dst, .int .i64 c.mode, .int .i64 c.ref] 44) h.size
  have hII := Blk.new w 44 #[.int .i64 c.op, .string c.path, .string c.dst, .int .i64 c.mode, .int .i64 c.ref]
  have HA := Lib.hid hA; clear hA h
  have i0 := hII.cell 0
  go_enter Try.func20, Try.ntmps20
  go_wp2_with (first | (go_at_call 40; refine (Hrw.out _).mono ?_; rintro e w1 ⟨rfl, hb1⟩; have j0 := ((hII.below hb1 hII.lt).alloc (.cells #[.bool false, .bool false, .nilFunc] 90)).cell 0; have HA1 := Lib.hid ((HA.out.keep (grown_below hb1 (Nat.le_refl _))).keep (World.grownBy_alloc w1 (.cells #[.bool false, .bool false, .nilFunc] 90) none)); have HF1 := Lib.hid ((hFr.trans (Fr.of_below hb1 HA.out.size)).trans (Fr.alloc (.cells #[.bool false, .bool false, .nilFunc] 90) (HA.out.keep (grown_below hb1 (Nat.le_refl _))).size))) | (refine wpList_store_new rfl 90 (.tmp 7) (.tmp 16) rfl 90 #[.bool false, .bool false, .nilFunc] #[.bool false, .bool false, .nilFunc] rfl rfl (by kernel_rfl) rfl (by kernel_rfl) ?_))
  go_ret
  exact ⟨rfl, HA1.out, HF1.out⟩
/-- model's do: an instruction is done, or refused. -/
theorem do_any (B0 wb : Nat) (M : PW) (s : Nat) (c : Cmd) (hop : -9223372036854775808 ≤ c.op ∧ c.op ≤ 9223372036854775807) (SA : Option Addr) (sn sc : Nat) (ss : List SC) (ds : List ByteArray) (w : World) (h : WorldAt B0 w wb M s) (hI : M.Inv) (hs : s ≤ 800000) (hl : M.nodes.length ≤ 800000) (hn : M.next ≤ 800000) (hS : StockAt w SA sn ss ds) (hSB : Sl w B0 1 SA sn (ss.flatMap SC.list) ∧ ∀ (k : Nat) (x : SC) (d : ByteArray), ss[k]? = some x → ds[k]? = some d → Sl w B0 1 x.A x.n (bytesC d)) :
    Calls Try.prog 20 #[.pointer (some ⟨wb, 0, none⟩), .agg c.cells, .slice SA sn sc] w (OpRes B0 wb (doM M c ds) (s + 2) (doE M c ds) w) := by
  by_cases hi : isOp c.op = true
  · have hi' := hi
    simp only [isOp, decide_eq_true_eq] at hi'
    by_cases h9 : c.op = 9
    · have e1 : doE M c ds = 0 := by rw [doE, if_neg (by rw [hi]; simp), if_pos h9]
      have e2 : doM M c ds = M := by rw [doM, if_neg (fun h => h.2 h9)]
      rw [e1, e2]
      exact (do_9 B0 wb M s c h9 hop SA sn sc w h).mono fun e w' ⟨h1, h2, h3⟩ => ⟨h1, h2.mono (by omega), h3⟩
    · have hk : c.op = 1 ∨ c.op = 2 ∨ c.op = 3 ∨ c.op = 4 ∨ c.op = 5 ∨ c.op = 6 ∨ c.op = 7 ∨ c.op = 8 := by omega
      obtain ⟨op, p, q, mode, ref, hp, hd⟩ := c
      simp only at hk
      rcases hk with rfl | rfl | rfl | rfl | rfl | rfl | rfl | rfl
      · exact do_1 B0 wb M s p q mode ref hp hd SA sn sc ss ds w h hI hs hl hn hS hSB
      · exact do_2 B0 wb M s p q mode ref hp hd SA sn sc ss ds w h hI hs hl hn hS hSB
      · exact do_3 B0 wb M s p q mode ref hp hd SA sn sc ss ds w h hI hs hl hn hS hSB
      · exact do_4 B0 wb M s p q mode ref hp hd SA sn sc ss ds w h hI hs hl hn hS hSB
      · exact do_5 B0 wb M s p q mode ref hp hd SA sn sc ss ds w h hI hs hl hn hS hSB
      · exact do_6 B0 wb M s p q mode ref hp hd SA sn sc ss ds w h hI hs hl hn hS hSB
      · exact do_7 B0 wb M s p q mode ref hp hd SA sn sc ss ds w h hI hs hl hn hS hSB
      · exact do_8 B0 wb M s p q mode ref hp hd SA sn sc ss ds w h hI hs hl hn hS hSB
  · have hi' : isOp c.op = false := by simpa using hi
    have e1 : doE M c ds = 34 := by rw [doE, if_pos hi']
    have e2 : doM M c ds = M := by rw [doM, e1, if_neg (by simp)]
    rw [e1, e2]
    exact (do_bad B0 wb M s c hi' hop SA sn sc w h).mono fun e w' ⟨h1, h2, h3⟩ => ⟨h1, h2.mono (by omega), h3⟩
end Go.Proofs.Ytanaccoelifcpaa
