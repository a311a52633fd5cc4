/- model's instructions: what each does to a world. -/
import Derived.Test.YtanaccoelifcpaaCmd
namespace Go.Proofs.Ytanaccoelifcpaa
open Go.RowKit

def OpRes (B0 wb : Nat) (M : PW) (s : Nat) (E : Int) (w : World) (e : Ending) (w' : World) : Prop := e = .returned (.int .i64 E) ∧ WorldAt B0 w' wb M s ∧ Fr B0 w w'
theorem pre0 {l : List Node} {p : ByteArray} (h : preE l p = 0) : ∃ x, nodeAt l p = some x ∧ lookF l p = x.file ∧ lookM l p = x.mode := by
  unfold preE at h
  split at h
  · cases h
  · rename_i h1
    have ht : lookT l p = true := by
      cases hq : lookT l p
      · exact absurd ⟨h, hq⟩ h1
      · rfl
    simp only [lookT, Bool.and_eq_true, decide_eq_true_eq] at ht
    obtain ⟨x, hx⟩ := Option.isSome_iff_exists.1 ht.2
    exact ⟨x, hx, by simp [lookF, ht.1, hx], by simp [lookM, ht.1, hx]⟩
theorem abs0 {l : List Node} {p : ByteArray} (h : absE l p = 0) : nodeAt l p = none := by
  unfold absE at h
  split at h
  · cases h
  · rename_i h1
    cases hq : nodeAt l p with
    | none => rfl
    | some x => exact absurd ⟨h, by simp [lookT, h, hq]⟩ h1
theorem fil0 {l : List Node} {p : ByteArray} (h : filE l p = 0) : preE l p = 0 ∧ 0 ≤ lookF l p := by
  unfold filE at h
  split at h
  · cases h
  · rename_i h1
    exact ⟨h, by omega⟩
theorem both0 {l : List Node} {p q : ByteArray} (h : bothE l p q = 0) : filE l p = 0 ∧ absE l q = 0 := by
  unfold bothE at h
  split at h
  · rename_i h1; exact ⟨h1, h⟩
  · rename_i h1; exact absurd h h1
theorem not_path {l : List Node} {p : ByteArray} (h : nodeAt l p = none) : p ∉ l.map (·.path) := fun hm => by
  obtain ⟨x, hx, e⟩ := List.mem_map.1 hm
  exact nodeAt_none.1 h x hx e
theorem neg1 : (-1 : Int) < 0 ∧ (-9223372036854775808 ≤ (-1 : Int) ∧ (-1 : Int) ≤ 9223372036854775807) := by decide
theorem PW.Inv.id0 {M : PW} (h : M.Inv) : ∀ f ∈ M.files, 0 ≤ f.id := fun f hf => (h.fbd f hf).1
theorem PW.Inv.file {M : PW} (h : M.Inv) {x : Node} (hx : x ∈ M.nodes) : x.file < 0 ∨ x.file ∈ M.files.map (·.id) := (h.kind x hx).imp (fun h => by omega) (fun h => h.2.2)
theorem PW.Inv.lt {M : PW} (h : M.Inv) {x : Node} (hx : x ∈ M.nodes) : -1 ≤ x.file ∧ x.file < M.next := by
  rcases h.kind x hx with h1 | ⟨h1, _, h2⟩
  · have := h.n0; omega
  · obtain ⟨f, hf, e⟩ := List.mem_map.1 h2
    have := h.fbd f hf
    omega
set_option maxRecDepth 100000 in
set_option maxHeartbeats 2000000 in
theorem mkdir_any (B0 wb : Nat) (M : PW) (s : Nat) (c : Cmd) (A : Option Addr) (n k : Nat) (hv : validL c.path.data.toList = true) (w : World) (h : WorldAt B0 w wb M s) (hI : M.Inv) (hs : s ≤ 900000) (hl : M.nodes.length ≤ 900000) (_ : M.next ≤ 900000) :
    Calls Try.prog 49 #[.pointer (some ⟨wb, 0, none⟩), .agg c.cells, .slice A n k] w (OpRes B0 wb (if absE M.nodes c.path = 0 then M.put ⟨c.path, -1, c.mode, c.hp⟩ else M) (s + 1) (absE M.nodes c.path) w) := by
  have hA := h.keep (World.grownBy_alloc w (.cells c.cells 44) none)
  have hI0 := Blk.new w 44 c.cells
  have hF0 : Fr B0 w (w.alloc (.cells c.cells 44)) := Fr.alloc _ h.size
  obtain ⟨R, hR⟩ : ∃ R, R = absE M.nodes c.path := ⟨_, rfl⟩
  have hmz : ∀ R' : Int, ¬ R = 0 → True := fun _ _ => trivial
  clear hmz
  unfold Cmd.cells at hA hI0 hF0 ⊢
  have HA := Lib.hid hA; clear hA h
  have HI := Lib.hid hI; clear hI
  have b0 := hI0.cell 0
  have b1 := hI0.cell 1
  have b2 := hI0.cell 2
  have b3 := hI0.cell 3
  have b4 := hI0.cell 4
  have HK := Lib.hid (fun w (h : WorldAt B0 w wb M s) => absent_any B0 wb M s c.path c.hp hv w h)
  rw [← hR]
  have HK' : Hid (∀ w, WorldAt B0 w wb M s → Calls Try.prog 58 #[.pointer (some ⟨wb, 0, none⟩), .string c.path] w (fun e w' => e = .returned (.int .i64 R) ∧ Below w.heap.size w w')) := by
    refine Lib.hid fun w h => ?_
    have := HK.out w h
    unfold NumRes at this
    rwa [← hR] at this
  clear HK
  by_cases h0 : R = 0
  · have ha := abs0 (hR.symm.trans h0)
    rw [if_pos h0]
    subst h0
    have HR := Lib.hid hR; clear hR
    have Hnp := Lib.hid (not_path ha); clear ha
    go_enter Try.func49, Try.ntmps49
    go_upto_region 3 with (go_at_call 58; refine (HK'.out _ HA.out).mono ?_; rintro e w1 ⟨rfl, hb1⟩)
    have hs1 := hb1.size
    have HA1 := Lib.hid (HA.out.keep (grown_below hb1 (Nat.le_refl _)))
    have hF1 := hF0.trans (Fr.of_below hb1 HA.out.size)
    have hI1 := hI0.below hb1 (by simp only [World.size_alloc]; omega)
    have c1 := hI1.cell 1
    have c3 := hI1.cell 3
    go_wp2_with (go_at_call 39; refine (put_any B0 wb M s ⟨c.path, -1, c.mode, c.hp⟩ _ HA1.out Hnp.out HI.out.id0 (.inl neg1.1) neg1.2 (by omega) (by omega)).mono ?_; rintro e w2 ⟨⟨v, rfl⟩, hw2, hf2⟩)
    go_ret
    exact ⟨rfl, hw2, hF1.trans hf2⟩
  · rw [if_neg h0]
    have HR := Lib.hid hR; clear hR
    obtain ⟨e1, e2⟩ := ne_b h0
    have H0 := Lib.hid h0; clear h0
    go_enter Try.func49, Try.ntmps49
    go_wp2_with (go_at_call 58; refine (HK'.out _ HA.out).mono ?_; rintro e w1 ⟨rfl, hb1⟩)
    go_ret
    exact ⟨rfl, (HA.out.keep (grown_below hb1 (Nat.le_refl _))).mono (by omega), hF0.trans (Fr.of_below hb1 HA.out.size)⟩
set_option maxRecDepth 100000 in
set_option maxHeartbeats 2000000 in
theorem write_any (B0 wb : Nat) (M : PW) (s : Nat) (c : Cmd) (d : ByteArray) (A : Option Addr) (n k : Nat) (hv : validL c.path.data.toList = true) (w : World) (h : WorldAt B0 w wb M s) (hI : M.Inv) (hs : s ≤ 900000) (hl : M.nodes.length ≤ 900000) (hn : M.next ≤ 900000) (hd : d.size = n) (hS : Sl w B0 1 A n (bytesC d)) :
    Calls Try.prog 54 #[.pointer (some ⟨wb, 0, none⟩), .agg c.cells, .slice A n k] w (OpRes B0 wb (if absE M.nodes c.path = 0 then M.made c.path c.hp c.mode d else M) (s + 1) (absE M.nodes c.path) w) := by
  have hA := h.keep (World.grownBy_alloc w (.cells c.cells 44) none)
  have hI0 := Blk.new w 44 c.cells
  have hF0 : Fr B0 w (w.alloc (.cells c.cells 44)) := Fr.alloc _ h.size
  obtain ⟨R, hR⟩ : ∃ R, R = absE M.nodes c.path := ⟨_, rfl⟩
  have hmz : ∀ R' : Int, ¬ R = 0 → True := fun _ _ => trivial
  clear hmz
  unfold Cmd.cells at hA hI0 hF0 ⊢
  have HA := Lib.hid hA; clear hA h
  have h00 := hI.n0
  have HI := Lib.hid hI; clear hI
  have Hd := Lib.hid hd; clear hd
  have HS := Lib.hid hS; clear hS
  have b0 := hI0.cell 0
  have b1 := hI0.cell 1
  have b2 := hI0.cell 2
  have b3 := hI0.cell 3
  have b4 := hI0.cell 4
  have HK := Lib.hid (fun w (h : WorldAt B0 w wb M s) => absent_any B0 wb M s c.path c.hp hv w h)
  rw [← hR]
  have HK' : Hid (∀ w, WorldAt B0 w wb M s → Calls Try.prog 58 #[.pointer (some ⟨wb, 0, none⟩), .string c.path] w (fun e w' => e = .returned (.int .i64 R) ∧ Below w.heap.size w w')) := by
    refine Lib.hid fun w h => ?_
    have := HK.out w h
    unfold NumRes at this
    rwa [← hR] at this
  clear HK
  by_cases h0 : R = 0
  · have ha := abs0 (hR.symm.trans h0)
    rw [if_pos h0]
    subst h0
    have HR := Lib.hid hR; clear hR
    have Hnp := Lib.hid (not_path ha); clear ha
    go_enter Try.func54, Try.ntmps54
    go_upto_region 3 with (go_at_call 58; refine (HK'.out _ HA.out).mono ?_; rintro e w1 ⟨rfl, hb1⟩)
    have hs1 := hb1.size
    have HA1 := Lib.hid (HA.out.keep (grown_below hb1 (Nat.le_refl _)))
    have hF1 := hF0.trans (Fr.of_below hb1 HA.out.size)
    have hI1 := hI0.below hb1 (by simp only [World.size_alloc]; omega)
    have c1 := hI1.cell 1
    have c3 := hI1.cell 3
    go_wp2_with (go_at_call 76; refine (made_any B0 wb M s c.path c.hp c.mode d A n k _ HA1.out Hd.out (HS.out.below hF1.below (Nat.le_refl _)) Hnp.out (fun f hf => ⟨(HI.out.fbd f hf).1, (HI.out.fbd f hf).2.1⟩) (fun x hx => (HI.out.lt hx).2) h00 (by omega) (by omega) (by omega)).mono ?_; rintro e w2 ⟨⟨v, rfl⟩, hw2, hf2⟩)
    go_ret
    exact ⟨rfl, hw2, hF1.trans hf2⟩
  · rw [if_neg h0]
    have HR := Lib.hid hR; clear hR
    obtain ⟨e1, e2⟩ := ne_b h0
    have H0 := Lib.hid h0; clear h0
    go_enter Try.func54, Try.ntmps54
    go_wp2_with (go_at_call 58; refine (HK'.out _ HA.out).mono ?_; rintro e w1 ⟨rfl, hb1⟩)
    go_ret
    exact ⟨rfl, (HA.out.keep (grown_below hb1 (Nat.le_refl _))).mono (by omega), hF0.trans (Fr.of_below hb1 HA.out.size)⟩
/-- The node at a path is taken away. -/
def PW.takeAt (M : PW) (p : ByteArray) : PW := match nodeAt M.nodes p with
  | some x => M.take x
  | none => M
def fileOf (M : PW) (i : Int) : Option PF := M.files.find? fun f => decide (f.id = i)
def dataOf (M : PW) (i : Int) : ByteArray := ((fileOf M i).map (·.data)).getD ByteArray.empty
theorem fileOf_mf {M : PW} {s : Nat} {ms : List MF} {kl : List (ByteArray × Value)} (h : WOk M s ms kl) (i : Int) : fileOf M i = (mfAt ms i).map MF.pf := by
  unfold fileOf mfAt
  rw [← h.mfs, List.find?_map]
  simp [Function.comp_def, MF.pf]
  rfl
theorem bothF {M : PW} (hI : M.Inv) {p q : ByteArray} (h : bothE M.nodes p q = 0) : ∃ x, nodeAt M.nodes p = some x ∧ x ∈ M.nodes ∧ x.path = p ∧ lookF M.nodes p = x.file ∧ lookM M.nodes p = 0 ∧ 0 ≤ x.file ∧ x.file < M.next ∧ x.file ∈ M.files.map (·.id) ∧ q ∉ M.nodes.map (·.path) := by
  obtain ⟨h1, h2⟩ := both0 h
  obtain ⟨h3, h4⟩ := fil0 h1
  obtain ⟨x, hx, e1, e2⟩ := pre0 h3
  obtain ⟨a1, a2⟩ := nodeAt_some hx
  have h5 := hI.lt a1
  rcases hI.kind x a1 with k | k
  · omega
  · exact ⟨x, hx, a1, a2, e1, by rw [e2, k.2.1], by omega, by omega, k.2.2, not_path (abs0 h2)⟩
set_option maxRecDepth 100000 in
set_option maxHeartbeats 2000000 in
theorem link_any (B0 wb : Nat) (M : PW) (s : Nat) (c : Cmd) (A : Option Addr) (n k : Nat) (hv : validL c.path.data.toList = true) (hv2 : validL c.dst.data.toList = true) (w : World) (h : WorldAt B0 w wb M s) (hI : M.Inv) (hs : s ≤ 900000) (hl : M.nodes.length ≤ 900000) (hn : M.next ≤ 900000) :
    Calls Try.prog 52 #[.pointer (some ⟨wb, 0, none⟩), .agg c.cells, .slice A n k] w (OpRes B0 wb (if bothE M.nodes c.path c.dst = 0 then M.put ⟨c.dst, lookF M.nodes c.path, 0, c.hd⟩ else M) (s + 1) (bothE M.nodes c.path c.dst) w) := by
  have hA := h.keep (World.grownBy_alloc w (.cells c.cells 44) none)
  have hI0 := Blk.new w 44 c.cells
  have hF0 : Fr B0 w (w.alloc (.cells c.cells 44)) := Fr.alloc _ h.size
  obtain ⟨R, hR⟩ : ∃ R, R = bothE M.nodes c.path c.dst := ⟨_, rfl⟩
  have hmz : ∀ R' : Int, ¬ R = 0 → True := fun _ _ => trivial
  clear hmz
  unfold Cmd.cells at hA hI0 hF0 ⊢
  have HA := Lib.hid hA; clear hA h
  have b0 := hI0.cell 0
  have b1 := hI0.cell 1
  have b2 := hI0.cell 2
  have b3 := hI0.cell 3
  have b4 := hI0.cell 4
  have HK := Lib.hid (fun w (h : WorldAt B0 w wb M s) => both_any B0 wb M s c hv hv2 w h)
  rw [← hR]
  obtain ⟨f, hf⟩ : ∃ f, lookF M.nodes c.path = f := ⟨_, rfl⟩
  obtain ⟨m, hm⟩ : ∃ m, lookM M.nodes c.path = m := ⟨_, rfl⟩
  have HK' : Hid (∀ w, WorldAt B0 w wb M s → Calls Try.prog 75 #[.pointer (some ⟨wb, 0, none⟩), .agg #[.int .i64 c.op, .string c.path, .string c.dst, .int .i64 c.mode, .int .i64 c.ref]] w (fun e w' => e = .returned (.tuple #[.agg #[.int .i64 f, .int .i64 m], .int .i64 R]) ∧ Below w.heap.size w w')) := by
    refine Lib.hid fun w h => ?_
    have := HK.out w h
    unfold NodeRes Cmd.cells at this
    rwa [← hR, hf, hm] at this
  clear HK
  by_cases h0 : R = 0
  · obtain ⟨x, hx, hxm, hxp, hxf, hxo, hx0, hxn, hxi, hdp⟩ := bothF hI (hR.symm.trans h0)
    rw [if_pos h0]
    rw [hf] at hxf
    rw [hm] at hxo
    subst h0 hxf hxo
    have HI := Lib.hid hI; clear hI
    have HR := Lib.hid hR; have Hx := Lib.hid hx; have Hxm := Lib.hid hxm; have Hxp := Lib.hid hxp; have Hxi := Lib.hid hxi; have Hdp := Lib.hid hdp; have Hf := Lib.hid hf; have Hm := Lib.hid hm
    clear hR hx hxm hxp hxi hdp hf hm
    rw [Hf.out]
    go_enter Try.func52, Try.ntmps52
    go_upto_region 3 with (go_at_call 75; refine (HK'.out _ HA.out).mono ?_; rintro e w1 ⟨rfl, hb1⟩)
    have hs1 := hb1.size
    have HA1 := Lib.hid ((HA.out.keep (grown_below hb1 (Nat.le_refl _))).keep (World.grownBy_alloc w1 (.cells #[.int .i64 x.file, .int .i64 0] 75) none))
    have hF1 := (hF0.trans (Fr.of_below hb1 HA.out.size)).trans (Fr.alloc (.cells #[.int .i64 x.file, .int .i64 0] 75) (HA.out.keep (grown_below hb1 (Nat.le_refl _))).size)
    have hI1 := (hI0.below hb1 (by simp only [World.size_alloc]; omega)).alloc (.cells #[.int .i64 x.file, .int .i64 0] 75)
    have hX := Blk.new w1 75 #[.int .i64 x.file, .int .i64 0]
    have c1 := hI1.cell 1
    have c2 := hI1.cell 2
    have c3 := hI1.cell 3
    have x0 := hX.cell 0
    have x1 := hX.cell 1
    go_wp2_with (go_at_call 39; refine (put_any B0 wb M s ⟨c.dst, x.file, 0, c.hd⟩ _ HA1.out Hdp.out HI.out.id0 (.inr Hxi.out) ⟨by show _ ≤ x.file; omega, by show x.file ≤ _; omega⟩ (by omega) (by omega)).mono ?_; rintro e w2 ⟨⟨v, rfl⟩, hw2, hf2⟩)
    go_ret
    exact ⟨rfl, hw2, hF1.trans hf2⟩
  · rw [if_neg h0]
    have HR := Lib.hid hR; clear hR
    obtain ⟨e1, e2⟩ := ne_b h0
    have H0 := Lib.hid h0; clear h0
    have Hf := Lib.hid hf; have Hm := Lib.hid hm; clear hf hm
    have HI := Lib.hid hI; clear hI
    go_enter Try.func52, Try.ntmps52
    go_wp2_with (go_at_call 75; refine (HK'.out _ HA.out).mono ?_; rintro e w1 ⟨rfl, hb1⟩)
    go_ret
    exact ⟨rfl, ((HA.out.keep (grown_below hb1 (Nat.le_refl _))).keep (World.grownBy_alloc w1 (.cells #[.int .i64 f, .int .i64 m] 75) none)).mono (by omega), (hF0.trans (Fr.of_below hb1 HA.out.size)).trans (Fr.alloc _ (HA.out.keep (grown_below hb1 (Nat.le_refl _))).size)⟩
set_option maxRecDepth 100000 in
set_option maxHeartbeats 2000000 in
theorem rename_any (B0 wb : Nat) (M : PW) (s : Nat) (c : Cmd) (A : Option Addr) (n k : Nat) (hv : validL c.path.data.toList = true) (hv2 : validL c.dst.data.toList = true) (w : World) (h : WorldAt B0 w wb M s) (hI : M.Inv) (hs : s ≤ 900000) (hl : M.nodes.length ≤ 900000) (hn : M.next ≤ 900000) :
    Calls Try.prog 51 #[.pointer (some ⟨wb, 0, none⟩), .agg c.cells, .slice A n k] w (OpRes B0 wb (if bothE M.nodes c.path c.dst = 0 then (M.put ⟨c.dst, lookF M.nodes c.path, 0, c.hd⟩).takeAt c.path else M) (s + 2) (bothE M.nodes c.path c.dst) w) := by
  have hA := h.keep (World.grownBy_alloc w (.cells c.cells 44) none)
  have hI0 := Blk.new w 44 c.cells
  have hF0 : Fr B0 w (w.alloc (.cells c.cells 44)) := Fr.alloc _ h.size
  obtain ⟨R, hR⟩ : ∃ R, R = bothE M.nodes c.path c.dst := ⟨_, rfl⟩
  have hmz : ∀ R' : Int, ¬ R = 0 → True := fun _ _ => trivial
  clear hmz
  unfold Cmd.cells at hA hI0 hF0 ⊢
  have HA := Lib.hid hA; clear hA h
  have b0 := hI0.cell 0
  have b1 := hI0.cell 1
  have b2 := hI0.cell 2
  have b3 := hI0.cell 3
  have b4 := hI0.cell 4
  have HK := Lib.hid (fun w (h : WorldAt B0 w wb M s) => both_any B0 wb M s c hv hv2 w h)
  rw [← hR]
  obtain ⟨f, hf⟩ : ∃ f, lookF M.nodes c.path = f := ⟨_, rfl⟩
  obtain ⟨m, hm⟩ : ∃ m, lookM M.nodes c.path = m := ⟨_, rfl⟩
  have HK' : Hid (∀ w, WorldAt B0 w wb M s → Calls Try.prog 75 #[.pointer (some ⟨wb, 0, none⟩), .agg #[.int .i64 c.op, .string c.path, .string c.dst, .int .i64 c.mode, .int .i64 c.ref]] w (fun e w' => e = .returned (.tuple #[.agg #[.int .i64 f, .int .i64 m], .int .i64 R]) ∧ Below w.heap.size w w')) := by
    refine Lib.hid fun w h => ?_
    have := HK.out w h
    unfold NodeRes Cmd.cells at this
    rwa [← hR, hf, hm] at this
  clear HK
  by_cases h0 : R = 0
  · obtain ⟨x, hx, hxm, hxp, hxf, hxo, hx0, hxn, hxi, hdp⟩ := bothF hI (hR.symm.trans h0)
    rw [if_pos h0]
    rw [hf] at hxf
    rw [hm] at hxo
    subst h0 hxf hxo
    have HI := Lib.hid hI; clear hI
    have HR := Lib.hid hR; have Hx := Lib.hid hx; have Hxm := Lib.hid hxm; have Hxp := Lib.hid hxp; have Hxi := Lib.hid hxi; have Hdp := Lib.hid hdp; have Hf := Lib.hid hf; have Hm := Lib.hid hm
    clear hR hx hxm hxp hxi hdp hf hm
    rw [Hf.out]
    have hA2 : Apart (M.put ⟨c.dst, x.file, 0, c.hd⟩).nodes := by
      simp only [PW.put, Apart, List.map_append, List.map_cons, List.map_nil]
      rw [List.nodup_append]
      exact ⟨HI.out.apart, by simp, fun a ha b hb e => by rw [List.mem_singleton.1 hb] at e; exact Hdp.out (e ▸ ha)⟩
    have HA2 := Lib.hid hA2; clear hA2
    have hm2 : x ∈ (M.put ⟨c.dst, x.file, 0, c.hd⟩).nodes := List.mem_append.2 (.inl Hxm.out)
    have Hm2 := Lib.hid hm2; clear hm2
    have hta : (M.put ⟨c.dst, x.file, 0, c.hd⟩).takeAt c.path = (M.put ⟨c.dst, x.file, 0, c.hd⟩).take x := by
      rw [PW.takeAt, ← Hxp.out, nodeAt_mem HA2.out Hm2.out]
    rw [hta]
    clear hta
    go_enter Try.func51, Try.ntmps51
    go_upto_region 3 with (go_at_call 75; refine (HK'.out _ HA.out).mono ?_; rintro e w1 ⟨rfl, hb1⟩)
    have hs1 := hb1.size
    have HA1 := Lib.hid ((HA.out.keep (grown_below hb1 (Nat.le_refl _))).keep (World.grownBy_alloc w1 (.cells #[.int .i64 x.file, .int .i64 0] 75) none))
    have hF1 := (hF0.trans (Fr.of_below hb1 HA.out.size)).trans (Fr.alloc (.cells #[.int .i64 x.file, .int .i64 0] 75) (HA.out.keep (grown_below hb1 (Nat.le_refl _))).size)
    have hI1 := (hI0.below hb1 (by simp only [World.size_alloc]; omega)).alloc (.cells #[.int .i64 x.file, .int .i64 0] 75)
    have hX := Blk.new w1 75 #[.int .i64 x.file, .int .i64 0]
    have c1 := hI1.cell 1
    have c2 := hI1.cell 2
    have c3 := hI1.cell 3
    have x0 := hX.cell 0
    have x1 := hX.cell 1
    go_upto_region 4 with (go_at_call 39; refine (put_any B0 wb M s ⟨c.dst, x.file, 0, c.hd⟩ _ HA1.out Hdp.out HI.out.id0 (.inr Hxi.out) ⟨by show _ ≤ x.file; omega, by show x.file ≤ _; omega⟩ (by omega) (by omega)).mono ?_; rintro e w2 ⟨⟨v, rfl⟩, hw2, hf2⟩)
    have hI2 := hf2.blk hI1 (by decide) (by decide)
    have d1 := hI2.cell 1
    rw [← Hxp.out] at d1
    have HW2 := Lib.hid hw2; clear hw2
    go_wp2_with (go_at_call 74; refine (take_any B0 wb _ (s + 1) x _ HW2.out HA2.out Hm2.out HI.out.id0 (.inr Hxi.out) ⟨by omega, by omega⟩ (by omega) (by simp only [PW.put, List.length_append, List.length_cons, List.length_nil]; omega)).mono ?_; rintro e w3 ⟨⟨v3, rfl⟩, hw3, hf3⟩)
    go_ret
    exact ⟨rfl, hw3, (hF1.trans hf2).trans hf3⟩
  · rw [if_neg h0]
    have HR := Lib.hid hR; clear hR
    obtain ⟨e1, e2⟩ := ne_b h0
    have H0 := Lib.hid h0; clear h0
    have Hf := Lib.hid hf; have Hm := Lib.hid hm; clear hf hm
    have HI := Lib.hid hI; clear hI
    go_enter Try.func51, Try.ntmps51
    go_wp2_with (go_at_call 75; refine (HK'.out _ HA.out).mono ?_; rintro e w1 ⟨rfl, hb1⟩)
    go_ret
    exact ⟨rfl, ((HA.out.keep (grown_below hb1 (Nat.le_refl _))).keep (World.grownBy_alloc w1 (.cells #[.int .i64 f, .int .i64 m] 75) none)).mono (by omega), (hF0.trans (Fr.of_below hb1 HA.out.size)).trans (Fr.alloc _ (HA.out.keep (grown_below hb1 (Nat.le_refl _))).size)⟩
set_option maxRecDepth 100000 in
set_option maxHeartbeats 2000000 in
theorem dup_any (B0 wb : Nat) (M : PW) (s : Nat) (c : Cmd) (A : Option Addr) (n k : Nat) (hv : validL c.path.data.toList = true) (hv2 : validL c.dst.data.toList = true) (w : World) (h : WorldAt B0 w wb M s) (hI : M.Inv) (hs : s ≤ 900000) (hl : M.nodes.length ≤ 900000) (hn : M.next ≤ 900000) :
    Calls Try.prog 55 #[.pointer (some ⟨wb, 0, none⟩), .agg c.cells, .slice A n k] w (OpRes B0 wb (if bothE M.nodes c.path c.dst = 0 then M.made c.dst c.hd c.mode (dataOf M (lookF M.nodes c.path)) else M) (s + 1) (bothE M.nodes c.path c.dst) w) := by
  have hA := h.keep (World.grownBy_alloc w (.cells c.cells 44) none)
  have hI0 := Blk.new w 44 c.cells
  have hF0 : Fr B0 w (w.alloc (.cells c.cells 44)) := Fr.alloc _ h.size
  obtain ⟨R, hR⟩ : ∃ R, R = bothE M.nodes c.path c.dst := ⟨_, rfl⟩
  have hmz : ∀ R' : Int, ¬ R = 0 → True := fun _ _ => trivial
  clear hmz
  unfold Cmd.cells at hA hI0 hF0 ⊢
  have HA := Lib.hid hA; clear hA h
  have b0 := hI0.cell 0
  have b1 := hI0.cell 1
  have b2 := hI0.cell 2
  have b3 := hI0.cell 3
  have b4 := hI0.cell 4
  have HK := Lib.hid (fun w (h : WorldAt B0 w wb M s) => both_any B0 wb M s c hv hv2 w h)
  rw [← hR]
  obtain ⟨f, hf⟩ : ∃ f, lookF M.nodes c.path = f := ⟨_, rfl⟩
  obtain ⟨m, hm⟩ : ∃ m, lookM M.nodes c.path = m := ⟨_, rfl⟩
  have HK' : Hid (∀ w, WorldAt B0 w wb M s → Calls Try.prog 75 #[.pointer (some ⟨wb, 0, none⟩), .agg #[.int .i64 c.op, .string c.path, .string c.dst, .int .i64 c.mode, .int .i64 c.ref]] w (fun e w' => e = .returned (.tuple #[.agg #[.int .i64 f, .int .i64 m], .int .i64 R]) ∧ Below w.heap.size w w')) := by
    refine Lib.hid fun w h => ?_
    have := HK.out w h
    unfold NodeRes Cmd.cells at this
    rwa [← hR, hf, hm] at this
  clear HK
  by_cases h0 : R = 0
  · obtain ⟨x, hx, hxm, hxp, hxf, hxo, hx0, hxn, hxi, hdp⟩ := bothF hI (hR.symm.trans h0)
    rw [if_pos h0]
    rw [hf] at hxf
    rw [hm] at hxo
    subst h0 hxf hxo
    have h00 := hI.n0
    have HI := Lib.hid hI; clear hI
    have HR := Lib.hid hR; have Hx := Lib.hid hx; have Hxm := Lib.hid hxm; have Hxp := Lib.hid hxp; have Hxi := Lib.hid hxi; have Hdp := Lib.hid hdp; have Hf := Lib.hid hf; have Hm := Lib.hid hm
    clear hR hx hxm hxp hxi hdp hf hm
    rw [Hf.out]
    go_enter Try.func55, Try.ntmps55
    go_upto_region 3 with (go_at_call 75; refine (HK'.out _ HA.out).mono ?_; rintro e w1 ⟨rfl, hb1⟩)
    have hs1 := hb1.size
    have HA1 := Lib.hid ((HA.out.keep (grown_below hb1 (Nat.le_refl _))).keep (World.grownBy_alloc w1 (.cells #[.int .i64 x.file, .int .i64 0] 75) none))
    have hF1 := (hF0.trans (Fr.of_below hb1 HA.out.size)).trans (Fr.alloc (.cells #[.int .i64 x.file, .int .i64 0] 75) (HA.out.keep (grown_below hb1 (Nat.le_refl _))).size)
    have hI1 := (hI0.below hb1 (by simp only [World.size_alloc]; omega)).alloc (.cells #[.int .i64 x.file, .int .i64 0] 75)
    have hX := Blk.new w1 75 #[.int .i64 x.file, .int .i64 0]
    have c1 := hI1.cell 1
    have c2 := hI1.cell 2
    have c3 := hI1.cell 3
    have x0 := hX.cell 0
    have x1 := hX.cell 1
    obtain ⟨nb, fb, kb, ms, kl, hM, hO⟩ := HA1.out
    obtain ⟨m0, hm1, hm2, hm3⟩ := mf_of_pf hO Hxi.out
    have hdd : dataOf M x.file = m0.data := by rw [dataOf, fileOf_mf hO, hm1]; rfl
    have hb := hM.fblk m0 hm2
    have hdt := hM.fdat m0 hm2
    unfold MF.cells at hb
    have hgf : (getV (msE ms) x.file).getD (.pointer none) = .pointer (some ⟨m0.g, 0, none⟩) := by rw [msE_get, hm1]; rfl
    have Hgf := Lib.hid hgf; have Hdd := Lib.hid hdd; have Hdt := Lib.hid hdt; have HO := Lib.hid hO
    clear hgf hdd hdt hO hm1 hm3
    have Hm2 := Lib.hid hm2; clear hm2
    obtain ⟨W1, hW1⟩ : ∃ W1, W1 = w1.alloc (.cells #[.int .i64 x.file, .int .i64 0] 75) := ⟨_, rfl⟩
    rw [← hW1] at HA1 hF1 hI1 hX hM hb Hdt ⊢
    clear hW1 c1 c2 c3 x0 x1
    have c2 := hI1.cell 2
    have c3 := hI1.cell 3
    have x0 := hX.cell 0
    have b1 := hM.blk.cell 1
    have f2 := hb.cell 2
    have hwl := hM.blk.lt
    have hbl := hb.lt
    have hil := hI1.lt
    have hXl := hX.lt
    have hml := fun (w' : World) (hh : ∀ b, b < W1.heap.size → w'.heap[b]? = W1.heap[b]?) => hM.files.keep (hh fb hM.files.lt)
    have Hml := Lib.hid hml; clear hml
    have hok : intK.ok x.file := wf_i64 (by omega) (by omega)
    refine wp_region_ordG (none) [(0, true), (1, true), (2, true), (3, true), (4, true), (5, true), (6, true), (7, true), (8, true), (9, true), (10, true), (11, true), (12, true), (13, true), (14, true)] 15 (by kernel_rfl) (by kernel_rfl) fun hG0 => ?_
    repeat (first
      | (refine ord_skipB rfl (by rfl) ?_; simp only [Act.put, List.setIfInBounds_toArray, List.set_cons_zero, List.set_cons_succ])
      | (refine ord_qH rfl (by rfl) (fun w' hh => exec_mv_look Try.mtFiles rfl rfl rfl (Hml.out w' fun b hb => hh b hb (by simp)) hok Hgf.out) ?_; simp only [Act.put, List.setIfInBounds_toArray, List.set_cons_zero, List.set_cons_succ])
      | (refine ord_qE rfl (by rfl) ?_; apply Exists.intro; refine ⟨fun w' hc' => ?_, ?_⟩; (focus (go_simp; (try go_bits); (try simp only [↓IntWalk.iteOmega]); with_reducible rfl)); simp only [Act.put, List.setIfInBounds_toArray, List.set_cons_zero, List.set_cons_succ]))
    have HA2 := Lib.hid (HA1.out.keep (grown_drew W1 none))
    have hS2 := Lib.hid (Hdt.out.2.below (Below.refl _ W1).drew hM.size)
    refine ord_tail rfl fun K hK => ?_
    go_wp2_with (go_at_call 76; refine (made_any B0 wb M s c.dst c.hd c.mode m0.data m0.A m0.n m0.c _ HA2.out Hdt.out.1 hS2.out Hdp.out (fun f hf => ⟨(HI.out.fbd f hf).1, (HI.out.fbd f hf).2.1⟩) (fun y hy => (HI.out.lt hy).2) h00 (by omega) (by omega) (by omega)).mono ?_; rintro e w2 ⟨⟨v, rfl⟩, hw2, hf2⟩)
    refine hK.out _ _ ?_
    clear hK K
    rw [← Hdd.out] at hw2
    go_wp2
    go_ret
    exact ⟨rfl, hw2, (hF1.trans (Fr.of_none (grown_drew W1 none) HA1.out.size)).trans hf2⟩
  · rw [if_neg h0]
    have HR := Lib.hid hR; clear hR
    obtain ⟨e1, e2⟩ := ne_b h0
    have H0 := Lib.hid h0; clear h0
    have Hf := Lib.hid hf; have Hm := Lib.hid hm; clear hf hm
    have HI := Lib.hid hI; clear hI
    go_enter Try.func55, Try.ntmps55
    go_wp2_with (go_at_call 75; refine (HK'.out _ HA.out).mono ?_; rintro e w1 ⟨rfl, hb1⟩)
    go_ret
    exact ⟨rfl, ((HA.out.keep (grown_below hb1 (Nat.le_refl _))).keep (World.grownBy_alloc w1 (.cells #[.int .i64 f, .int .i64 m] 75) none)).mono (by omega), (hF0.trans (Fr.of_below hb1 HA.out.size)).trans (Fr.alloc _ (HA.out.keep (grown_below hb1 (Nat.le_refl _))).size)⟩
set_option maxRecDepth 100000 in
set_option maxHeartbeats 2000000 in
theorem unlink_any (B0 wb : Nat) (M : PW) (s : Nat) (c : Cmd) (A : Option Addr) (n k : Nat) (hv : validL c.path.data.toList = true) (w : World) (h : WorldAt B0 w wb M s) (hI : M.Inv) (hs : s ≤ 900000) (hl : M.nodes.length ≤ 900000) (hn : M.next ≤ 900000) :
    Calls Try.prog 53 #[.pointer (some ⟨wb, 0, none⟩), .agg c.cells, .slice A n k] w (OpRes B0 wb (if filE M.nodes c.path = 0 then M.takeAt c.path else M) (s + 1) (filE M.nodes c.path) w) := by
  have hA := h.keep (World.grownBy_alloc w (.cells c.cells 44) none)
  have hI0 := Blk.new w 44 c.cells
  have hF0 : Fr B0 w (w.alloc (.cells c.cells 44)) := Fr.alloc _ h.size
  obtain ⟨R, hR⟩ : ∃ R, R = filE M.nodes c.path := ⟨_, rfl⟩
  have hmz : ∀ R' : Int, ¬ R = 0 → True := fun _ _ => trivial
  clear hmz
  unfold Cmd.cells at hA hI0 hF0 ⊢
  have HA := Lib.hid hA; clear hA h
  have b0 := hI0.cell 0
  have b1 := hI0.cell 1
  have b2 := hI0.cell 2
  have b3 := hI0.cell 3
  have b4 := hI0.cell 4
  have HK := Lib.hid (fun w (h : WorldAt B0 w wb M s) => fileAt_any B0 wb M s c.path c.hp hv w h)
  rw [← hR]
  obtain ⟨f, hf⟩ : ∃ f, lookF M.nodes c.path = f := ⟨_, rfl⟩
  obtain ⟨m, hm⟩ : ∃ m, lookM M.nodes c.path = m := ⟨_, rfl⟩
  have HK' : Hid (∀ w, WorldAt B0 w wb M s → Calls Try.prog 57 #[.pointer (some ⟨wb, 0, none⟩), .string c.path] w (fun e w' => e = .returned (.tuple #[.agg #[.int .i64 f, .int .i64 m], .int .i64 R]) ∧ Below w.heap.size w w')) := by
    refine Lib.hid fun w h => ?_
    have := HK.out w h
    unfold NodeRes at this
    rwa [← hR, hf, hm] at this
  clear HK
  by_cases h0 : R = 0
  · rw [if_pos h0]
    obtain ⟨h3, h4⟩ := fil0 (hR.symm.trans h0)
    obtain ⟨x, hx, q1, q2⟩ := pre0 h3
    rw [hf] at q1
    rw [hm] at q2
    subst h0 q1 q2
    obtain ⟨hxm, hxp⟩ := nodeAt_some hx
    have hlt := hI.lt hxm
    have hxi := hI.file hxm
    have hta : M.takeAt c.path = M.take x := by rw [PW.takeAt, hx]
    rw [hta]
    have HI := Lib.hid hI; clear hI
    have HR := Lib.hid hR; have Hxm := Lib.hid hxm; have Hxp := Lib.hid hxp; have Hxi := Lib.hid hxi; have Hf := Lib.hid hf; have Hm := Lib.hid hm; have H3 := Lib.hid h3
    clear hR hx hxm hxp hxi hf hm h3 hta
    go_enter Try.func53, Try.ntmps53
    go_upto_region 3 with (go_at_call 57; refine (HK'.out _ HA.out).mono ?_; rintro e w1 ⟨rfl, hb1⟩)
    have hs1 := hb1.size
    have HA1 := Lib.hid ((HA.out.keep (grown_below hb1 (Nat.le_refl _))).keep (World.grownBy_alloc w1 (.cells #[.int .i64 x.file, .int .i64 x.mode] 75) none))
    have hF1 := (hF0.trans (Fr.of_below hb1 HA.out.size)).trans (Fr.alloc (.cells #[.int .i64 x.file, .int .i64 x.mode] 75) (HA.out.keep (grown_below hb1 (Nat.le_refl _))).size)
    have hI1 := (hI0.below hb1 (by simp only [World.size_alloc]; omega)).alloc (.cells #[.int .i64 x.file, .int .i64 x.mode] 75)
    have hX := Blk.new w1 75 #[.int .i64 x.file, .int .i64 x.mode]
    have c1 := hI1.cell 1
    have c3 := hI1.cell 3
    have x0 := hX.cell 0
    have x1 := hX.cell 1
    rw [← Hxp.out] at c1
    go_wp2_with (go_at_call 74; refine (take_any B0 wb M s x _ HA1.out HI.out.apart Hxm.out HI.out.id0 Hxi.out ⟨by omega, by omega⟩ (by omega) (by omega)).mono ?_; rintro e w3 ⟨⟨v3, rfl⟩, hw3, hf3⟩)
    go_ret
    exact ⟨rfl, hw3, hF1.trans hf3⟩
  · rw [if_neg h0]
    have HR := Lib.hid hR; clear hR
    obtain ⟨e1, e2⟩ := ne_b h0
    have H0 := Lib.hid h0; clear h0
    have Hf := Lib.hid hf; have Hm := Lib.hid hm; clear hf hm
    have HI := Lib.hid hI; clear hI
    go_enter Try.func53, Try.ntmps53
    go_wp2_with (go_at_call 57; refine (HK'.out _ HA.out).mono ?_; rintro e w1 ⟨rfl, hb1⟩)
    go_ret
    exact ⟨rfl, ((HA.out.keep (grown_below hb1 (Nat.le_refl _))).keep (World.grownBy_alloc w1 (.cells #[.int .i64 f, .int .i64 m] 75) none)).mono (by omega), (hF0.trans (Fr.of_below hb1 HA.out.size)).trans (Fr.alloc _ (HA.out.keep (grown_below hb1 (Nat.le_refl _))).size)⟩
def rmE (M : PW) (p : ByteArray) : Int := if preE M.nodes p ≠ 0 then preE M.nodes p else if 0 ≤ lookF M.nodes p then 22 else if 0 < kidsC M.nodes p then 25 else 0
set_option maxRecDepth 100000 in
set_option maxHeartbeats 2000000 in
theorem rmdir_any (B0 wb : Nat) (M : PW) (s : Nat) (c : Cmd) (A : Option Addr) (n k : Nat) (hv : validL c.path.data.toList = true) (w : World) (h : WorldAt B0 w wb M s) (hI : M.Inv) (hs : s ≤ 900000) (hl : M.nodes.length ≤ 900000) (_ : M.next ≤ 900000) :
    Calls Try.prog 50 #[.pointer (some ⟨wb, 0, none⟩), .agg c.cells, .slice A n k] w (OpRes B0 wb (if rmE M c.path = 0 then M.takeAt c.path else M) (s + 1) (rmE M c.path) w) := by
  have hA := h.keep (World.grownBy_alloc w (.cells c.cells 44) none)
  have hI0 := Blk.new w 44 c.cells
  have hF0 : Fr B0 w (w.alloc (.cells c.cells 44)) := Fr.alloc _ h.size
  obtain ⟨R, hR⟩ : ∃ R, R = preE M.nodes c.path := ⟨_, rfl⟩
  have hmz : ∀ R' : Int, ¬ R = 0 → True := fun _ _ => trivial
  clear hmz
  unfold Cmd.cells at hA hI0 hF0 ⊢
  have HA := Lib.hid hA; clear hA h
  have b0 := hI0.cell 0
  have b1 := hI0.cell 1
  have b2 := hI0.cell 2
  have b3 := hI0.cell 3
  have b4 := hI0.cell 4
  have HK := Lib.hid (fun w (h : WorldAt B0 w wb M s) => present_any B0 wb M s c.path c.hp hv w h)
  obtain ⟨Q, hQ⟩ : ∃ Q, rmE M c.path = Q := ⟨_, rfl⟩
  rw [hQ]
  unfold rmE at hQ
  rw [← hR] at hQ
  obtain ⟨f, hf⟩ : ∃ f, lookF M.nodes c.path = f := ⟨_, rfl⟩
  obtain ⟨m, hm⟩ : ∃ m, lookM M.nodes c.path = m := ⟨_, rfl⟩
  have HK' : Hid (∀ w, WorldAt B0 w wb M s → Calls Try.prog 73 #[.pointer (some ⟨wb, 0, none⟩), .string c.path] w (fun e w' => e = .returned (.tuple #[.agg #[.int .i64 f, .int .i64 m], .int .i64 R]) ∧ Below w.heap.size w w')) := by
    refine Lib.hid fun w h => ?_
    have := HK.out w h
    unfold NodeRes at this
    rwa [← hR, hf, hm] at this
  clear HK
  rw [hf] at hQ
  by_cases h0 : R = 0
  · rw [if_neg (by simp [h0])] at hQ
    obtain ⟨x, hx, q1, q2⟩ := pre0 (hR.symm.trans h0)
    rw [hf] at q1
    rw [hm] at q2
    subst h0 q1 q2
    obtain ⟨hxm, hxp⟩ := nodeAt_some hx
    have hlt := hI.lt hxm
    have hxi := hI.file hxm
    have hta : M.takeAt c.path = M.take x := by rw [PW.takeAt, hx]
    rw [hta]
    obtain ⟨M', hM'⟩ : ∃ M', (if Q = 0 then M.take x else M) = M' := ⟨_, rfl⟩
    rw [hM']
    have HM' := Lib.hid hM'; clear hM'
    have HI := Lib.hid hI; clear hI
    have HR := Lib.hid hR; have Hxm := Lib.hid hxm; have Hxp := Lib.hid hxp; have Hxi := Lib.hid hxi; have Hf := Lib.hid hf; have Hm := Lib.hid hm
    clear hR hx hxm hxp hxi hf hm hta
    by_cases hd : 0 ≤ x.file
    · rw [if_pos hd] at hQ
      subst hQ
      go_enter Try.func50, Try.ntmps50
      go_upto_region 4 with (go_at_call 73; refine (HK'.out _ HA.out).mono ?_; rintro e w1 ⟨rfl, hb1⟩)
      have hs1 := hb1.size
      have HA1 := Lib.hid ((HA.out.keep (grown_below hb1 (Nat.le_refl _))).keep (World.grownBy_alloc w1 (.cells #[.int .i64 x.file, .int .i64 x.mode] 75) none))
      have hF1 := (hF0.trans (Fr.of_below hb1 HA.out.size)).trans (Fr.alloc (.cells #[.int .i64 x.file, .int .i64 x.mode] 75) (HA.out.keep (grown_below hb1 (Nat.le_refl _))).size)
      have hI1 := (hI0.below hb1 (by simp only [World.size_alloc]; omega)).alloc (.cells #[.int .i64 x.file, .int .i64 x.mode] 75)
      have hX := Blk.new w1 75 #[.int .i64 x.file, .int .i64 x.mode]
      have c1 := hI1.cell 1
      have c3 := hI1.cell 3
      have x0 := hX.cell 0
      have x1 := hX.cell 1
      go_wp2
      go_ret
      exact ⟨rfl, by rw [← HM'.out, if_neg (by decide)]; exact HA1.out.mono (by omega), hF1⟩
    · rw [if_neg hd] at hQ
      obtain ⟨kc, hkc⟩ : ∃ kc, kidsC M.nodes c.path = kc := ⟨_, rfl⟩
      rw [hkc] at hQ
      have hkl := kidsC_le M.nodes c.path
      rw [hkc] at hkl
      have Hkc := Lib.hid hkc; clear hkc
      have HQ0 := Lib.hid hQ; clear hQ
      go_enter Try.func50, Try.ntmps50
      go_upto_region 6 with (go_at_call 73; refine (HK'.out _ HA.out).mono ?_; rintro e w1 ⟨rfl, hb1⟩)
      have hs1 := hb1.size
      have HA1 := Lib.hid ((HA.out.keep (grown_below hb1 (Nat.le_refl _))).keep (World.grownBy_alloc w1 (.cells #[.int .i64 x.file, .int .i64 x.mode] 75) none))
      have hF1 := (hF0.trans (Fr.of_below hb1 HA.out.size)).trans (Fr.alloc (.cells #[.int .i64 x.file, .int .i64 x.mode] 75) (HA.out.keep (grown_below hb1 (Nat.le_refl _))).size)
      have hI1 := (hI0.below hb1 (by simp only [World.size_alloc]; omega)).alloc (.cells #[.int .i64 x.file, .int .i64 x.mode] 75)
      have hX := Blk.new w1 75 #[.int .i64 x.file, .int .i64 x.mode]
      have c1 := hI1.cell 1
      have c3 := hI1.cell 3
      have x0 := hX.cell 0
      have x1 := hX.cell 1
      obtain ⟨nb, fb, kb, ms, kl, hM, hO⟩ := HA1.out
      have hget := hO.kid c.path
      rw [Hkc.out] at hget
      have Hget := Lib.hid hget; have HO := Lib.hid hO; clear hget hO
      obtain ⟨W1, hW1⟩ : ∃ W1, W1 = w1.alloc (.cells #[.int .i64 x.file, .int .i64 x.mode] 75) := ⟨_, rfl⟩
      rw [← hW1] at HA1 hF1 hI1 hX hM ⊢
      clear hW1 c1 c3 x0 x1
      have c1 := hI1.cell 1
      have m2 := hM.blk.cell 2
      have hwl := hM.blk.lt
      have hil := hI1.lt
      have hml := fun (w' : World) (hh : ∀ b, b < W1.heap.size → w'.heap[b]? = W1.heap[b]?) => hM.kids.keep (hh kb hM.kids.lt)
      have Hml := Lib.hid hml; clear hml
      have hcz : strK.ok c.path := c.hp
      refine wp_region_ordB (none) [(0, true), (1, true), (2, true), (3, true), (4, true), (5, true), (6, true), (7, true), (8, true)] (by kernel_rfl) (by kernel_rfl) fun hG0 => ?_
      repeat (first
        | (refine ord_skipB rfl (by rfl) ?_; simp only [Act.put, List.setIfInBounds_toArray, List.set_cons_zero, List.set_cons_succ])
        | (refine ord_qH rfl (by rfl) (fun w' hh => exec_mv_look Try.mtKids rfl rfl rfl (Hml.out w' fun b hb => hh b hb (by simp)) hcz Hget.out) ?_; simp only [Act.put, List.setIfInBounds_toArray, List.set_cons_zero, List.set_cons_succ])
        | (refine ord_qE rfl (by rfl) ?_; apply Exists.intro; refine ⟨fun w' hc' => ?_, ?_⟩; (focus (go_simp; (try go_bits); (try simp only [↓IntWalk.iteOmega]); with_reducible rfl)); simp only [Act.put, List.setIfInBounds_toArray, List.set_cons_zero, List.set_cons_succ]))
      refine ord_end ?_
      have HA2 := Lib.hid (HA1.out.keep hG0)
      have hF2 := hF1.trans (Fr.of_none hG0 HA1.out.size)
      have hI2 := hI1.grown hG0 (by simp)
      have hQ := HQ0.out
      by_cases hk : 0 < kc
      · rw [if_pos hk] at hQ
        have HQ := Lib.hid hQ; clear hQ
        go_wp2
        go_ret
        exact ⟨by rw [← HQ.out]; rfl, by rw [← HM'.out, if_neg (by rw [← HQ.out]; decide)]; exact HA2.out.mono (by omega), hF2⟩
      · rw [if_neg hk] at hQ
        have HQ := Lib.hid hQ; clear hQ
        go_upto_region 8 with (fail)
        obtain ⟨W2, hW2⟩ : ∃ W2, W2 = W1.drew := ⟨_, rfl⟩
        rw [← hW2] at HA2 hF2 hI2 ⊢
        clear hW2 c1 m2
        have c1 := hI2.cell 1
        rw [← Hxp.out] at c1
        go_wp2_with (go_at_call 74; refine (take_any B0 wb M s x _ HA2.out HI.out.apart Hxm.out HI.out.id0 Hxi.out ⟨by omega, by omega⟩ (by omega) (by omega)).mono ?_; rintro e w3 ⟨⟨v3, rfl⟩, hw3, hf3⟩)
        go_ret
        exact ⟨by rw [← HQ.out]; rfl, by rw [← HM'.out, if_pos HQ.out.symm]; exact hw3, hF2.trans hf3⟩
  · rw [if_pos h0] at hQ
    subst hQ
    rw [if_neg h0]
    have HR := Lib.hid hR; clear hR
    obtain ⟨e1, e2⟩ := ne_b h0
    have H0 := Lib.hid h0; clear h0
    have Hf := Lib.hid hf; have Hm := Lib.hid hm; clear hf hm
    have HI := Lib.hid hI; clear hI
    go_enter Try.func50, Try.ntmps50
    go_wp2_with (go_at_call 73; refine (HK'.out _ HA.out).mono ?_; rintro e w1 ⟨rfl, hb1⟩)
    go_ret
    exact ⟨rfl, ((HA.out.keep (grown_below hb1 (Nat.le_refl _))).keep (World.grownBy_alloc w1 (.cells #[.int .i64 f, .int .i64 m] 75) none)).mono (by omega), (hF0.trans (Fr.of_below hb1 HA.out.size)).trans (Fr.alloc _ (HA.out.keep (grown_below hb1 (Nat.le_refl _))).size)⟩
def chmodN (l : List Node) (p : ByteArray) (mode : Int) : List Node := l.map fun x => if x.path = p then ⟨x.path, -1, mode, x.hp⟩ else x
def chmodF (l : List PF) (i mode : Int) : List PF := l.map fun f => if f.id = i then { f with mode := mode } else f
def PW.chmod (M : PW) (p : ByteArray) (mode : Int) : PW := match nodeAt M.nodes p with
  | some x => if x.file < 0 then { M with nodes := chmodN M.nodes p mode } else { M with files := chmodF M.files x.file mode }
  | none => M
theorem nodesE_chmod {l : List Node} {p : ByteArray} (h : p ∈ l.map (·.path)) (mode : Int) : putV (nodesE l) p (nodeV (-1) mode) = nodesE (chmodN l p mode) := by
  unfold putV
  rw [nodesE_keys, if_pos h]
  simp only [nodesE, chmodN, List.map_map]
  refine List.map_congr_left fun x _ => ?_
  show (if x.path = p then (p, nodeV (-1) mode) else (x.path, nodeV x.file x.mode)) = Node.ent (if x.path = p then ⟨x.path, -1, mode, x.hp⟩ else x)
  by_cases e : x.path = p
  · rw [if_pos e, if_pos e]; simp [Node.ent, e]
  · rw [if_neg e, if_neg e]; rfl
theorem count_chmod {f : Node → Bool} {p : ByteArray} {mode : Int} : ∀ {l : List Node}, (∀ x ∈ l, x.path = p → f ⟨x.path, -1, mode, x.hp⟩ = f x) → (chmodN l p mode).countP f = l.countP f
  | [], _ => rfl
  | a :: t, h => by
    have e : chmodN (a :: t) p mode = (if a.path = p then ⟨a.path, -1, mode, a.hp⟩ else a) :: chmodN t p mode := rfl
    rw [e, List.countP_cons, List.countP_cons, count_chmod fun x hx => h x (List.mem_cons_of_mem _ hx)]
    by_cases q : a.path = p
    · rw [if_pos q, h a (by simp) q]
    · rw [if_neg q]
def modeMF (mode : Int) (m : MF) : MF := { m with mode := mode }
theorem setMF_id {ms : List MF} {m0 : MF} (hm : m0 ∈ ms) (hg : ms.Pairwise (fun x y => x.g ≠ y.g)) (hid : ∀ m ∈ ms, m.id = m0.id → m = m0) (f : MF → MF) : setMF ms m0.g f = ms.map fun m => if m.id = m0.id then f m else m := by
  refine List.map_congr_left fun m h => ?_
  by_cases e : m.id = m0.id
  · rw [if_pos e, if_pos (by rw [hid m h e])]
  · rw [if_neg e, if_neg]
    intro eg
    refine e ?_
    rcases List.mem_iff_getElem.1 h with ⟨a, ha, rfl⟩
    rcases List.mem_iff_getElem.1 hm with ⟨b, hb, rfl⟩
    rcases Nat.lt_trichotomy a b with hlt | rfl | hlt
    · exact absurd eg (List.pairwise_iff_getElem.1 hg a b ha hb hlt)
    · rfl
    · exact absurd eg.symm (List.pairwise_iff_getElem.1 hg b a hb ha hlt)
set_option maxRecDepth 100000 in
set_option maxHeartbeats 2000000 in
theorem chmod_any (B0 wb : Nat) (M : PW) (s : Nat) (c : Cmd) (A : Option Addr) (n k : Nat) (hv : validL c.path.data.toList = true) (w : World) (h : WorldAt B0 w wb M s) (hI : M.Inv) (_ : s ≤ 900000) (hl : M.nodes.length ≤ 900000) (hn : M.next ≤ 900000) :
    Calls Try.prog 56 #[.pointer (some ⟨wb, 0, none⟩), .agg c.cells, .slice A n k] w (OpRes B0 wb (if preE M.nodes c.path = 0 then M.chmod c.path c.mode else M) (s + 1) (preE M.nodes c.path) w) := by
  have hA := h.keep (World.grownBy_alloc w (.cells c.cells 44) none)
  have hI0 := Blk.new w 44 c.cells
  have hF0 : Fr B0 w (w.alloc (.cells c.cells 44)) := Fr.alloc _ h.size
  obtain ⟨R, hR⟩ : ∃ R, R = preE M.nodes c.path := ⟨_, rfl⟩
  have hmz : ∀ R' : Int, ¬ R = 0 → True := fun _ _ => trivial
  clear hmz
  unfold Cmd.cells at hA hI0 hF0 ⊢
  have HA := Lib.hid hA; clear hA h
  have b0 := hI0.cell 0
  have b1 := hI0.cell 1
  have b2 := hI0.cell 2
  have b3 := hI0.cell 3
  have b4 := hI0.cell 4
  have HK := Lib.hid (fun w (h : WorldAt B0 w wb M s) => present_any B0 wb M s c.path c.hp hv w h)
  rw [← hR]
  obtain ⟨f, hf⟩ : ∃ f, lookF M.nodes c.path = f := ⟨_, rfl⟩
  obtain ⟨m, hm⟩ : ∃ m, lookM M.nodes c.path = m := ⟨_, rfl⟩
  have HK' : Hid (∀ w, WorldAt B0 w wb M s → Calls Try.prog 73 #[.pointer (some ⟨wb, 0, none⟩), .string c.path] w (fun e w' => e = .returned (.tuple #[.agg #[.int .i64 f, .int .i64 m], .int .i64 R]) ∧ Below w.heap.size w w')) := by
    refine Lib.hid fun w h => ?_
    have := HK.out w h
    unfold NodeRes at this
    rwa [← hR, hf, hm] at this
  clear HK
  by_cases h0 : R = 0
  · rw [if_pos h0]
    obtain ⟨x, hx, q1, q2⟩ := pre0 (hR.symm.trans h0)
    rw [hf] at q1
    rw [hm] at q2
    subst h0 q1 q2
    obtain ⟨hxm, hxp⟩ := nodeAt_some hx
    have hlt := hI.lt hxm
    have hxi := hI.file hxm
    have hkd := hI.kind x hxm
    have hta : M.chmod c.path c.mode = if x.file < 0 then { M with nodes := chmodN M.nodes c.path c.mode } else { M with files := chmodF M.files x.file c.mode } := by rw [PW.chmod, hx]
    rw [hta]
    have HI := Lib.hid hI; clear hI
    have HR := Lib.hid hR; have Hxm := Lib.hid hxm; have Hxp := Lib.hid hxp; have Hxi := Lib.hid hxi; have Hf := Lib.hid hf; have Hm := Lib.hid hm; have Hkd := Lib.hid hkd
    clear hR hx hxm hxp hxi hf hm hta hkd
    by_cases hd : x.file < 0
    · rw [if_pos hd]
      go_enter Try.func56, Try.ntmps56
      go_upto_region 6 with (go_at_call 73; refine (HK'.out _ HA.out).mono ?_; rintro e w1 ⟨rfl, hb1⟩)
      have hs1 := hb1.size
      have HA1 := Lib.hid ((HA.out.keep (grown_below hb1 (Nat.le_refl _))).keep (World.grownBy_alloc w1 (.cells #[.int .i64 x.file, .int .i64 x.mode] 75) none))
      have hF1 := (hF0.trans (Fr.of_below hb1 HA.out.size)).trans (Fr.alloc (.cells #[.int .i64 x.file, .int .i64 x.mode] 75) (HA.out.keep (grown_below hb1 (Nat.le_refl _))).size)
      have hI1 := (hI0.below hb1 (by simp only [World.size_alloc]; omega)).alloc (.cells #[.int .i64 x.file, .int .i64 x.mode] 75)
      have hX := Blk.new w1 75 #[.int .i64 x.file, .int .i64 x.mode]
      have c1 := hI1.cell 1
      have c3 := hI1.cell 3
      have x0 := hX.cell 0
      have x1 := hX.cell 1
      obtain ⟨nb, fb, kb, ms, kl, hM, hO⟩ := HA1.out
      have HO := Lib.hid hO; clear hO
      obtain ⟨W1, hW1⟩ : ∃ W1, W1 = w1.alloc (.cells #[.int .i64 x.file, .int .i64 x.mode] 75) := ⟨_, rfl⟩
      rw [← hW1] at HA1 hF1 hI1 hX hM ⊢
      clear hW1 c1 c3 x0 x1
      have c1 := hI1.cell 1
      have c3 := hI1.cell 3
      have m0 := hM.blk.cell 0
      have hwl := hM.blk.lt
      have hil := hI1.lt
      refine wp_region_ordG (none) [(0, true), (1, true), (2, true), (3, true), (4, true), (5, true), (6, true), (7, true), (8, true)] 9 (by kernel_rfl) (by kernel_rfl) fun hG0 => ?_
      repeat (first
        | (refine ord_skipB rfl (by rfl) ?_; simp only [Act.put, List.setIfInBounds_toArray, List.set_cons_zero, List.set_cons_succ])
        | (refine ord_qE rfl (by rfl) ?_; apply Exists.intro; refine ⟨fun w' hc' => ?_, ?_⟩; (focus (go_simp; (try go_bits); (try simp only [↓IntWalk.iteOmega]); with_reducible rfl)); simp only [Act.put, List.setIfInBounds_toArray, List.set_cons_zero, List.set_cons_succ]))
      refine ord_tail rfl fun K hK => ?_
      go_wp2_with (refine wpList_mv_put rfl Try.mtNodes _ _ _ (.inl rfl) rfl (hM.nodes.kept (grown_drew W1 none) (by simp)) (T := strK) (q := c.path) rfl c.hp rfl (by simp [nodesE]; unfold maxLen; omega) ?_; intro w2 hm2 hg2 hs2)
      refine hK.out _ _ ?_
      clear hK K
      have hpm : c.path ∈ M.nodes.map (·.path) := List.mem_map.2 ⟨x, Hxm.out, Hxp.out⟩
      replace hg2 := grown_trans (grown_drew W1 (some nb)) hg2
      have hM2 := hM.set_nodes (ns' := nodesE (chmodN M.nodes c.path c.mode)) hg2 (by rw [← nodesE_chmod hpm]; exact hm2)
      clear hm2
      have hF2 := hF1.trans (Fr.of_map hg2 hM.nodes hM.new.2.1 hM.size)
      go_wp2
      go_ret
      have hxf : x.file = -1 := by rcases Hkd.out with k | k <;> omega
      have huq : ∀ y ∈ M.nodes, y.path = c.path → y = x := fun y hy e => apart_inj HI.out.apart hy Hxm.out (e.trans Hxp.out.symm)
      refine ⟨rfl, WorldAt.mono (s := s) ⟨nb, fb, kb, ms, kl, hM2, ⟨HO.out.mfs, fun m hm => ?_, fun p => ?_, HO.out.kmax⟩⟩ (by omega), hF2⟩
      · rw [HO.out.cnt m hm]
        congr 1
        refine (count_chmod fun y hy e => ?_).symm
        rw [huq y hy e, hxf]
      · rw [HO.out.kid p]
        congr 2
        exact (count_chmod fun y hy e => rfl).symm
    · rw [if_neg hd]
      go_enter Try.func56, Try.ntmps56
      go_upto_region 2 with (go_at_call 73; refine (HK'.out _ HA.out).mono ?_; rintro e w1 ⟨rfl, hb1⟩)
      have hs1 := hb1.size
      have HA1 := Lib.hid ((HA.out.keep (grown_below hb1 (Nat.le_refl _))).keep (World.grownBy_alloc w1 (.cells #[.int .i64 x.file, .int .i64 x.mode] 75) none))
      have hF1 := (hF0.trans (Fr.of_below hb1 HA.out.size)).trans (Fr.alloc (.cells #[.int .i64 x.file, .int .i64 x.mode] 75) (HA.out.keep (grown_below hb1 (Nat.le_refl _))).size)
      have hI1 := (hI0.below hb1 (by simp only [World.size_alloc]; omega)).alloc (.cells #[.int .i64 x.file, .int .i64 x.mode] 75)
      have hX := Blk.new w1 75 #[.int .i64 x.file, .int .i64 x.mode]
      have c1 := hI1.cell 1
      have c3 := hI1.cell 3
      have x0 := hX.cell 0
      have x1 := hX.cell 1
      obtain ⟨nb, fb, kb, ms, kl, hM, hO⟩ := HA1.out
      have hxi2 := Hxi.out.resolve_left (by omega)
      obtain ⟨m0, hm1, hm2, hm3⟩ := mf_of_pf hO hxi2
      have hb := hM.fblk m0 hm2
      unfold MF.cells at hb
      have hgf : (getV (msE ms) x.file).getD (.pointer none) = .pointer (some ⟨m0.g, 0, none⟩) := by rw [msE_get, hm1]; rfl
      have Hgf := Lib.hid hgf; have HO := Lib.hid hO; have Hm2 := Lib.hid hm2; have Hm3 := Lib.hid hm3
      clear hgf hO hm1 hm2 hm3 hxi2
      obtain ⟨W1, hW1⟩ : ∃ W1, W1 = w1.alloc (.cells #[.int .i64 x.file, .int .i64 x.mode] 75) := ⟨_, rfl⟩
      rw [← hW1] at HA1 hF1 hI1 hX hM hb ⊢
      clear hW1 c1 c3 x0 x1
      have c3 := hI1.cell 3
      have x0 := hX.cell 0
      have b1 := hM.blk.cell 1
      have f0 := hb.cell 0
      have z0 := hb.frozen 0
      have hwl := hM.blk.lt
      have hbl := hb.lt
      have hil := hI1.lt
      have hXl := hX.lt
      have hml := fun (w' : World) (hh : ∀ b, b < W1.heap.size → w'.heap[b]? = W1.heap[b]?) => hM.files.keep (hh fb hM.files.lt)
      have Hml := Lib.hid hml; clear hml
      have hok : intK.ok x.file := wf_i64 (by omega) (by omega)
      refine wp_region_ordG (none) [(0, true), (1, true), (2, true), (3, true), (4, true), (5, true), (6, true), (7, true), (8, true), (9, true), (10, true)] 11 (by kernel_rfl) (by kernel_rfl) fun hG0 => ?_
      repeat (first
        | (refine ord_skipB rfl (by rfl) ?_; simp only [Act.put, List.setIfInBounds_toArray, List.set_cons_zero, List.set_cons_succ])
        | (refine ord_qH rfl (by rfl) (fun w' hh => exec_mv_look Try.mtFiles rfl rfl rfl (Hml.out w' fun b hb => hh b hb (by simp)) hok Hgf.out) ?_; simp only [Act.put, List.setIfInBounds_toArray, List.set_cons_zero, List.set_cons_succ])
        | (refine ord_qE rfl (by rfl) ?_; apply Exists.intro; refine ⟨fun w' hc' => ?_, ?_⟩; (focus (go_simp; (try go_bits); (try simp only [↓IntWalk.iteOmega]); with_reducible rfl)); simp only [Act.put, List.setIfInBounds_toArray, List.set_cons_zero, List.set_cons_succ]))
      refine ord_tail rfl fun K hK => ?_
      go_wp2_with (fail)
      refine hK.out _ _ ?_
      clear hK K
      have hM5 := (hM.keep (grown_drew W1 none)).set_file Hm2.out 0 (.int .i64 c.mode) (modeMF c.mode) (fun m => ⟨rfl, rfl, rfl, rfl, rfl⟩) (by simp [MF.cells, modeMF])
      have hF5 := hF1.trans ((Fr.of_none (grown_drew W1 none) hM.size).trans (Fr.setCell (i := 0) (hM.keep (grown_drew W1 none) |>.fblk m0 Hm2.out) (.inr rfl) (hM.fnew m0 Hm2.out) (.int .i64 c.mode)))
      have hset := setMF_id Hm2.out hM.gs (fun m hm e => hM.one hm Hm2.out e) (modeMF c.mode)
      have Hset := Lib.hid hset; clear hset
      go_wp2
      go_ret
      refine ⟨rfl, WorldAt.mono (s := s) ⟨nb, fb, kb, _, kl, hM5, ⟨?_, fun m hm => ?_, HO.out.kid, HO.out.kmax⟩⟩ (by omega), hF5⟩
      · rw [Hset.out, ← HO.out.mfs]
        simp only [chmodF, List.map_map]
        refine List.map_congr_left fun m hm => ?_
        show MF.pf (if m.id = m0.id then modeMF c.mode m else m) = if m.id = x.file then { MF.pf m with mode := c.mode } else MF.pf m
        rw [Hm3.out]
        by_cases e : m.id = x.file
        · rw [if_pos e, if_pos e]; rfl
        · rw [if_neg e, if_neg e]
      · rw [Hset.out] at hm
        obtain ⟨m1, q1, rfl⟩ := List.mem_map.1 hm
        have := HO.out.cnt m1 q1
        split
        · exact this
        · exact this
  · rw [if_neg h0]
    have HR := Lib.hid hR; clear hR
    obtain ⟨e1, e2⟩ := ne_b h0
    have H0 := Lib.hid h0; clear h0
    have Hf := Lib.hid hf; have Hm := Lib.hid hm; clear hf hm
    have HI := Lib.hid hI; clear hI
    go_enter Try.func56, Try.ntmps56
    go_wp2_with (go_at_call 73; refine (HK'.out _ HA.out).mono ?_; rintro e w1 ⟨rfl, hb1⟩)
    go_ret
    exact ⟨rfl, ((HA.out.keep (grown_below hb1 (Nat.le_refl _))).keep (World.grownBy_alloc w1 (.cells #[.int .i64 f, .int .i64 m] 75) none)).mono (by omega), (hF0.trans (Fr.of_below hb1 HA.out.size)).trans (Fr.alloc _ (HA.out.keep (grown_below hb1 (Nat.le_refl _))).size)⟩
end Go.Proofs.Ytanaccoelifcpaa
