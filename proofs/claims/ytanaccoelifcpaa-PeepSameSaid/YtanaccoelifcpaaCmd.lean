/- api.Ins with its own bounds; what the small looks of package model tell. -/
import Derived.Test.YtanaccoelifcpaaPlaces
namespace Go.Proofs.Ytanaccoelifcpaa
open Go.RowKit

/-- An instruction. -/
structure Cmd where
  op : Int
  path : ByteArray
  dst : ByteArray
  mode : Int
  ref : Int
  hp : path.size ≤ 9223372036854775807
  hd : dst.size ≤ 9223372036854775807
def Cmd.cells (x : Cmd) : Array Value := #[.int .i64 x.op, .string x.path, .string x.dst, .int .i64 x.mode, .int .i64 x.ref]
def Cmd.list (x : Cmd) : List Value := [.int .i64 x.op, .string x.path, .string x.dst, .int .i64 x.mode, .int .i64 x.ref]
theorem Try.cmdT : ElemT Try.prog 26 44 5 56 :=
  ElemT.mk' (z := .agg #[.int .i64 0, .string ByteArray.empty, .string ByteArray.empty, .int .i64 0, .int .i64 0]) Try.underlying26 (by kernel_rfl) rfl (by decide)
/-- What a world holds to. -/
structure PW.Inv (M : PW) : Prop where
  apart : Apart M.nodes
  valid : ∀ x ∈ M.nodes, validL (pathL x) = true
  dir : ∀ x ∈ M.nodes, DirIn M.nodes (parentB x.path).data.toList
  kind : ∀ x ∈ M.nodes, (x.file = -1 ∧ okMode x.mode = true) ∨ (0 ≤ x.file ∧ x.mode = 0 ∧ x.file ∈ M.files.map (·.id))
  ids : (M.files.map (·.id)).Nodup
  hit : ∀ f ∈ M.files, ∃ x ∈ M.nodes, x.file = f.id
  fbd : ∀ f ∈ M.files, 0 ≤ f.id ∧ f.id < M.next ∧ okMode f.mode = true ∧ f.data.size ≤ 8192
  n0 : 0 ≤ M.next
def absE (l : List Node) (p : ByteArray) : Int := if lookE l p = 0 ∧ lookT l p = true then 23 else lookE l p
def preE (l : List Node) (p : ByteArray) : Int := if lookE l p = 0 ∧ lookT l p = false then 21 else lookE l p
def filE (l : List Node) (p : ByteArray) : Int := if preE l p = 0 ∧ lookF l p < 0 then 24 else preE l p
def bothE (l : List Node) (p q : ByteArray) : Int := if filE l p = 0 then absE l q else filE l p
theorem ret_i {k : IntKind} {a b : Int} (h : a = b) : Ending.returned (.int k a) = .returned (.int k b) := by rw [h]
theorem ne_b {a b : Int} (h : ¬ a = b) : (a == b) = false ∧ (a != b) = true := by simp [h]
def NumRes (E : Int) (w : World) (e : Ending) (w' : World) : Prop := e = .returned (.int .i64 E) ∧ Below w.heap.size w w'
def NodeRes (f m E : Int) (w : World) (e : Ending) (w' : World) : Prop := e = .returned (.tuple #[.agg #[.int .i64 f, .int .i64 m], .int .i64 E]) ∧ Below w.heap.size w w'
section
variable (B0 wb : Nat) (M : PW) (s : Nat) (p : ByteArray) (hp : p.size ≤ 9223372036854775807) (hv : validL p.data.toList = true) (w : World) (h : WorldAt B0 w wb M s)
include hp hv h
set_option maxRecDepth 100000 in
set_option maxHeartbeats 2000000 in
theorem absent_any : Calls Try.prog 58 #[.pointer (some ⟨wb, 0, none⟩), .string p] w (NumRes (absE M.nodes p) w) := by
  have HK := Lib.hid (look_any B0 wb M s p hp hv w h); clear hv h hp
  obtain ⟨R, hR⟩ : ∃ R, absE M.nodes p = R := ⟨_, rfl⟩
  rw [hR]
  unfold absE at hR
  obtain ⟨f, hf⟩ : ∃ f, lookF M.nodes p = f := ⟨_, rfl⟩
  obtain ⟨m, hm⟩ : ∃ m, lookM M.nodes p = m := ⟨_, rfl⟩
  obtain ⟨t, ht⟩ : ∃ t, lookT M.nodes p = t := ⟨_, rfl⟩
  obtain ⟨E, hE⟩ : ∃ E, lookE M.nodes p = E := ⟨_, rfl⟩
  have HK' : Hid (Calls Try.prog 77 #[.pointer (some ⟨wb, 0, none⟩), .string p] w (fun e w' => e = .returned (.tuple #[.agg #[.int .i64 f, .int .i64 m], .bool t, .int .i64 E]) ∧ Below w.heap.size w w')) := by
    have := HK.out
    unfold LookRes at this
    rw [hf, hm, ht, hE] at this
    exact Lib.hid this
  rw [hE, ht] at hR
  clear HK hf hm ht hE
  by_cases h0 : E = 0
  · subst h0
    cases t with
    | true =>
      rw [if_pos ⟨rfl, rfl⟩] at hR
      subst hR
      go_enter Try.func58, Try.ntmps58
      go_wp2_with (go_at_call 77; refine HK'.out.mono ?_; rintro e w1 ⟨rfl, hb1⟩)
      go_ret
      exact ⟨rfl, hb1.alloc hb1.size _⟩
    | false =>
      rw [if_neg (by simp)] at hR
      subst hR
      go_enter Try.func58, Try.ntmps58
      go_wp2_with (go_at_call 77; refine HK'.out.mono ?_; rintro e w1 ⟨rfl, hb1⟩)
      go_ret
      exact ⟨rfl, hb1.alloc hb1.size _⟩
  · rw [if_neg (fun h => h0 h.1)] at hR
    subst hR
    obtain ⟨e1, e2⟩ := ne_b h0
    have H0 := Lib.hid h0; clear h0
    go_enter Try.func58, Try.ntmps58
    go_wp2_with (go_at_call 77; refine HK'.out.mono ?_; rintro e w1 ⟨rfl, hb1⟩)
    go_ret
    exact ⟨rfl, hb1.alloc hb1.size _⟩
set_option maxRecDepth 100000 in
set_option maxHeartbeats 2000000 in
theorem present_any : Calls Try.prog 73 #[.pointer (some ⟨wb, 0, none⟩), .string p] w (NodeRes (lookF M.nodes p) (lookM M.nodes p) (preE M.nodes p) w) := by
  have HK := Lib.hid (fun w (h : WorldAt B0 w wb M s) => look_any B0 wb M s p hp hv w h); clear hv hp
  obtain ⟨R, hR⟩ : ∃ R, preE M.nodes p = R := ⟨_, rfl⟩
  rw [hR]
  unfold preE at hR
  obtain ⟨f, hf⟩ : ∃ f, lookF M.nodes p = f := ⟨_, rfl⟩
  obtain ⟨m, hm⟩ : ∃ m, lookM M.nodes p = m := ⟨_, rfl⟩
  obtain ⟨t, ht⟩ : ∃ t, lookT M.nodes p = t := ⟨_, rfl⟩
  obtain ⟨E, hE⟩ : ∃ E, lookE M.nodes p = E := ⟨_, rfl⟩
  have HK' : Hid (∀ w, WorldAt B0 w wb M s → Calls Try.prog 77 #[.pointer (some ⟨wb, 0, none⟩), .string p] w (fun e w' => e = .returned (.tuple #[.agg #[.int .i64 f, .int .i64 m], .bool t, .int .i64 E]) ∧ Below w.heap.size w w')) := by
    refine Lib.hid fun w h => ?_
    have := HK.out w h
    unfold LookRes at this
    rwa [hf, hm, ht, hE] at this
  rw [hE, ht] at hR
  rw [hf, hm]
  clear HK hf hm ht hE
  have hA := h.keep (World.grownBy_alloc w (.cells #[.int .i64 0, .int .i64 0] 75) none)
  have HA := Lib.hid hA; clear hA h
  have hR0 := Blk.new w 75 #[.int .i64 0, .int .i64 0]
  have hb0 : Below w.heap.size w (w.alloc (.cells #[.int .i64 0, .int .i64 0] 75)) := (Below.refl _ _).alloc (Nat.le_refl _) _
  have go : ∀ b1 b2 : Bool, (E == 0) = b1 → (E != 0) = b2 → Calls Try.prog 73 #[.pointer (some ⟨wb, 0, none⟩), .string p] w (NodeRes f m R w) := by
    intro b1 b2 e1 e2
    have key : (b1 = true ∧ t = false ∧ R = 21) ∨ ((b1 = false ∨ t = true) ∧ R = E) := by
      rw [← e1, ← hR]
      by_cases h0 : E = 0 <;> cases t <;> simp [h0]
    clear hR
    rcases key with ⟨rfl, rfl, rfl⟩ | ⟨k1, rfl⟩
    · go_enter Try.func73, Try.ntmps73
      go_upto_region 2 with (go_at_call 77; refine (HK'.out _ HA.out).mono ?_; rintro e w1 ⟨rfl, hb1⟩)
      have hR1 := (hR0.below hb1 (by simp)).alloc (.cells #[.int .i64 f, .int .i64 m] 75)
      have hX := Blk.new w1 75 #[.int .i64 f, .int .i64 m]
      have hs1 := hb1.size
      rw [World.size_alloc] at hs1
      have hb := (hb0.trans (hb1.mono (by simp))).alloc (by omega) (.cells #[.int .i64 f, .int .i64 m] 75)
      have x0 := hX.cell 0
      have x1 := hX.cell 1
      go_wp2_with (refine wpList_store_blk rfl _ _ _ rfl hR1 #[.int .i64 f, .int .i64 m] rfl rfl (by kernel_rfl) (by kernel_rfl) (by kernel_rfl) ?_; intro w5 hB5 hg5 hs5)
      exact ret_cell_t rfl rfl (load_blk hB5 Try.underlying75 rfl (by kernel_rfl)) rfl ⟨rfl, hb.trans (below_grown hg5 hb.size (fun g e => by injection e with e; omega))⟩
    · rcases k1 with rfl | rfl
      · go_enter Try.func73, Try.ntmps73
        go_upto_region 2 with (go_at_call 77; refine (HK'.out _ HA.out).mono ?_; rintro e w1 ⟨rfl, hb1⟩)
        have hR1 := (hR0.below hb1 (by simp)).alloc (.cells #[.int .i64 f, .int .i64 m] 75)
        have hX := Blk.new w1 75 #[.int .i64 f, .int .i64 m]
        have hs1 := hb1.size
        rw [World.size_alloc] at hs1
        have hb := (hb0.trans (hb1.mono (by simp))).alloc (by omega) (.cells #[.int .i64 f, .int .i64 m] 75)
        have x0 := hX.cell 0
        have x1 := hX.cell 1
        go_wp2_with (refine wpList_store_blk rfl _ _ _ rfl hR1 #[.int .i64 f, .int .i64 m] rfl rfl (by kernel_rfl) (by kernel_rfl) (by kernel_rfl) ?_; intro w5 hB5 hg5 hs5)
        exact ret_cell_t rfl rfl (load_blk hB5 Try.underlying75 rfl (by kernel_rfl)) rfl ⟨rfl, hb.trans (below_grown hg5 hb.size (fun g e => by injection e with e; omega))⟩
      · cases b1
        all_goals
          go_enter Try.func73, Try.ntmps73
          go_upto_region 2 with (go_at_call 77; refine (HK'.out _ HA.out).mono ?_; rintro e w1 ⟨rfl, hb1⟩)
          have hR1 := (hR0.below hb1 (by simp)).alloc (.cells #[.int .i64 f, .int .i64 m] 75)
          have hX := Blk.new w1 75 #[.int .i64 f, .int .i64 m]
          have hs1 := hb1.size
          rw [World.size_alloc] at hs1
          have hb := (hb0.trans (hb1.mono (by simp))).alloc (by omega) (.cells #[.int .i64 f, .int .i64 m] 75)
          have x0 := hX.cell 0
          have x1 := hX.cell 1
          go_wp2_with (refine wpList_store_blk rfl _ _ _ rfl hR1 #[.int .i64 f, .int .i64 m] rfl rfl (by kernel_rfl) (by kernel_rfl) (by kernel_rfl) ?_; intro w5 hB5 hg5 hs5)
          exact ret_cell_t rfl rfl (load_blk hB5 Try.underlying75 rfl (by kernel_rfl)) rfl ⟨rfl, hb.trans (below_grown hg5 hb.size (fun g e => by injection e with e; omega))⟩
  exact go _ _ rfl rfl
set_option maxRecDepth 100000 in
set_option maxHeartbeats 2000000 in
theorem fileAt_any : Calls Try.prog 57 #[.pointer (some ⟨wb, 0, none⟩), .string p] w (NodeRes (lookF M.nodes p) (lookM M.nodes p) (filE M.nodes p) w) := by
  have HK := Lib.hid (fun w (h : WorldAt B0 w wb M s) => present_any B0 wb M s p hp hv w h); clear hv hp
  obtain ⟨R, hR⟩ : ∃ R, filE M.nodes p = R := ⟨_, rfl⟩
  rw [hR]
  unfold filE at hR
  obtain ⟨f, hf⟩ : ∃ f, lookF M.nodes p = f := ⟨_, rfl⟩
  obtain ⟨m, hm⟩ : ∃ m, lookM M.nodes p = m := ⟨_, rfl⟩
  obtain ⟨E, hE⟩ : ∃ E, preE M.nodes p = E := ⟨_, rfl⟩
  have HK' : Hid (∀ w, WorldAt B0 w wb M s → Calls Try.prog 73 #[.pointer (some ⟨wb, 0, none⟩), .string p] w (fun e w' => e = .returned (.tuple #[.agg #[.int .i64 f, .int .i64 m], .int .i64 E]) ∧ Below w.heap.size w w')) := by
    refine Lib.hid fun w h => ?_
    have := HK.out w h
    unfold NodeRes at this
    rwa [hf, hm, hE] at this
  rw [hE, hf] at hR
  rw [hf, hm]
  clear HK hf hm hE
  have hA := h.keep (World.grownBy_alloc w (.cells #[.int .i64 0, .int .i64 0] 75) none)
  have HA := Lib.hid hA; clear hA h
  have hR0 := Blk.new w 75 #[.int .i64 0, .int .i64 0]
  have hb0 : Below w.heap.size w (w.alloc (.cells #[.int .i64 0, .int .i64 0] 75)) := (Below.refl _ _).alloc (Nat.le_refl _) _
  by_cases h0 : E = 0
  · subst h0
    by_cases hl : f < 0
    · rw [if_pos ⟨rfl, hl⟩] at hR
      subst hR
      go_enter Try.func57, Try.ntmps57
      go_upto_region 2 with (go_at_call 73; refine (HK'.out _ HA.out).mono ?_; rintro e w1 ⟨rfl, hb1⟩)
      have hR1 := (hR0.below hb1 (by simp)).alloc (.cells #[.int .i64 f, .int .i64 m] 75)
      have hX := Blk.new w1 75 #[.int .i64 f, .int .i64 m]
      have hs1 := hb1.size
      rw [World.size_alloc] at hs1
      have hb := (hb0.trans (hb1.mono (by simp))).alloc (by omega) (.cells #[.int .i64 f, .int .i64 m] 75)
      have x0 := hX.cell 0
      have x1 := hX.cell 1
      go_wp2_with (refine wpList_store_blk rfl _ _ _ rfl hR1 #[.int .i64 f, .int .i64 m] rfl rfl (by kernel_rfl) (by kernel_rfl) (by kernel_rfl) ?_; intro w5 hB5 hg5 hs5)
      exact ret_cell_t rfl rfl (load_blk hB5 Try.underlying75 rfl (by kernel_rfl)) rfl ⟨rfl, hb.trans (below_grown hg5 hb.size (fun g e => by injection e with e; omega))⟩
    · rw [if_neg (fun h => hl h.2)] at hR
      subst hR
      go_enter Try.func57, Try.ntmps57
      go_upto_region 2 with (go_at_call 73; refine (HK'.out _ HA.out).mono ?_; rintro e w1 ⟨rfl, hb1⟩)
      have hR1 := (hR0.below hb1 (by simp)).alloc (.cells #[.int .i64 f, .int .i64 m] 75)
      have hX := Blk.new w1 75 #[.int .i64 f, .int .i64 m]
      have hs1 := hb1.size
      rw [World.size_alloc] at hs1
      have hb := (hb0.trans (hb1.mono (by simp))).alloc (by omega) (.cells #[.int .i64 f, .int .i64 m] 75)
      have x0 := hX.cell 0
      have x1 := hX.cell 1
      go_wp2_with (refine wpList_store_blk rfl _ _ _ rfl hR1 #[.int .i64 f, .int .i64 m] rfl rfl (by kernel_rfl) (by kernel_rfl) (by kernel_rfl) ?_; intro w5 hB5 hg5 hs5)
      exact ret_cell_t rfl rfl (load_blk hB5 Try.underlying75 rfl (by kernel_rfl)) rfl ⟨rfl, hb.trans (below_grown hg5 hb.size (fun g e => by injection e with e; omega))⟩
  · rw [if_neg (fun h => h0 h.1)] at hR
    subst hR
    obtain ⟨e1, e2⟩ := ne_b h0
    have H0 := Lib.hid h0; clear h0
    go_enter Try.func57, Try.ntmps57
    go_upto_region 2 with (go_at_call 73; refine (HK'.out _ HA.out).mono ?_; rintro e w1 ⟨rfl, hb1⟩)
    have hR1 := (hR0.below hb1 (by simp)).alloc (.cells #[.int .i64 f, .int .i64 m] 75)
    have hX := Blk.new w1 75 #[.int .i64 f, .int .i64 m]
    have hs1 := hb1.size
    rw [World.size_alloc] at hs1
    have hb := (hb0.trans (hb1.mono (by simp))).alloc (by omega) (.cells #[.int .i64 f, .int .i64 m] 75)
    have x0 := hX.cell 0
    have x1 := hX.cell 1
    go_wp2_with (refine wpList_store_blk rfl _ _ _ rfl hR1 #[.int .i64 f, .int .i64 m] rfl rfl (by kernel_rfl) (by kernel_rfl) (by kernel_rfl) ?_; intro w5 hB5 hg5 hs5)
    exact ret_cell_t rfl rfl (load_blk hB5 Try.underlying75 rfl (by kernel_rfl)) rfl ⟨rfl, hb.trans (below_grown hg5 hb.size (fun g e => by injection e with e; omega))⟩
end
set_option maxRecDepth 100000 in
set_option maxHeartbeats 2000000 in
theorem both_any (B0 wb : Nat) (M : PW) (s : Nat) (c : Cmd) (hv : validL c.path.data.toList = true) (hv2 : validL c.dst.data.toList = true) (w : World) (h : WorldAt B0 w wb M s) :
    Calls Try.prog 75 #[.pointer (some ⟨wb, 0, none⟩), .agg c.cells] w (NodeRes (lookF M.nodes c.path) (lookM M.nodes c.path) (bothE M.nodes c.path c.dst) w) := by
  have HK1 := Lib.hid (fun w (h : WorldAt B0 w wb M s) => fileAt_any B0 wb M s c.path c.hp hv w h)
  have HK2 := Lib.hid (fun w (h : WorldAt B0 w wb M s) => absent_any B0 wb M s c.dst c.hd hv2 w h)
  clear hv hv2
  obtain ⟨R, hR⟩ : ∃ R, bothE M.nodes c.path c.dst = R := ⟨_, rfl⟩
  rw [hR]
  unfold bothE at hR
  obtain ⟨f, hf⟩ : ∃ f, lookF M.nodes c.path = f := ⟨_, rfl⟩
  obtain ⟨m, hm⟩ : ∃ m, lookM M.nodes c.path = m := ⟨_, rfl⟩
  obtain ⟨E, hE⟩ : ∃ E, filE M.nodes c.path = E := ⟨_, rfl⟩
  obtain ⟨E2, hE2⟩ : ∃ E, absE M.nodes c.dst = E := ⟨_, rfl⟩
  have HK1' : Hid (∀ w, WorldAt B0 w wb M s → Calls Try.prog 57 #[.pointer (some ⟨wb, 0, none⟩), .string c.path] w (fun e w' => e = .returned (.tuple #[.agg #[.int .i64 f, .int .i64 m], .int .i64 E]) ∧ Below w.heap.size w w')) := by
    refine Lib.hid fun w h => ?_
    have := HK1.out w h
    unfold NodeRes at this
    rwa [hf, hm, hE] at this
  have HK2' : Hid (∀ w, WorldAt B0 w wb M s → Calls Try.prog 58 #[.pointer (some ⟨wb, 0, none⟩), .string c.dst] w (fun e w' => e = .returned (.int .i64 E2) ∧ Below w.heap.size w w')) := by
    refine Lib.hid fun w h => ?_
    have := HK2.out w h
    unfold NumRes at this
    rwa [hE2] at this
  rw [hE, hE2] at hR
  rw [hf, hm]
  clear HK1 HK2 hf hm hE hE2
  unfold Cmd.cells
  have hA := (h.keep (World.grownBy_alloc w (.cells c.cells 44) none)).keep (World.grownBy_alloc _ (.cells #[.int .i64 0, .int .i64 0] 75) none)
  have hI0 := (Blk.new w 44 c.cells).alloc (.cells #[.int .i64 0, .int .i64 0] 75)
  have hR0 := Blk.new (w.alloc (.cells c.cells 44)) 75 #[.int .i64 0, .int .i64 0]
  have hb0 : Below w.heap.size w ((w.alloc (.cells c.cells 44)).alloc (.cells #[.int .i64 0, .int .i64 0] 75)) := ((Below.refl _ _).alloc (Nat.le_refl _) _).alloc (by simp) _
  rw [World.size_alloc] at hR0
  unfold Cmd.cells at hA hI0 hR0 hb0
  have HA := Lib.hid hA; clear hA h
  have b1 := hI0.cell 1
  have b2 := hI0.cell 2
  by_cases h0 : E = 0
  · rw [if_pos h0] at hR
    subst h0 hR
    go_enter Try.func75, Try.ntmps75
    go_upto_region 2 with (go_at_call 57; refine (HK1'.out _ HA.out).mono ?_; rintro e w1 ⟨rfl, hb1⟩)
    have hs1 := hb1.size
    simp only [World.size_alloc] at hs1
    have hA1 := (HA.out.keep (grown_below hb1 (Nat.le_refl _))).keep (World.grownBy_alloc w1 (.cells #[.int .i64 f, .int .i64 m] 75) none)
    have HA1 := Lib.hid hA1; clear hA1
    have hR1 := (hR0.below hb1 (by simp)).alloc (.cells #[.int .i64 f, .int .i64 m] 75)
    have hI1 := (hI0.below hb1 (by simp only [World.size_alloc]; omega)).alloc (.cells #[.int .i64 f, .int .i64 m] 75)
    have hX := Blk.new w1 75 #[.int .i64 f, .int .i64 m]
    have hb := (hb0.trans (hb1.mono (by simp only [World.size_alloc]; omega))).alloc (by omega) (.cells #[.int .i64 f, .int .i64 m] 75)
    have c2 := hI1.cell 2
    go_upto_region 4 with (go_at_call 58; refine (HK2'.out _ HA1.out).mono ?_; rintro e w2 ⟨rfl, hb2⟩)
    have hs2 := hb2.size
    simp only [World.size_alloc] at hs2
    have hR2 := hR1.below hb2 (by simp only [World.size_alloc]; omega)
    have hX2 := hX.below hb2 (by simp only [World.size_alloc]; omega)
    have x0 := hX2.cell 0
    have x1 := hX2.cell 1
    replace hb := hb.trans (hb2.mono (by simp only [World.size_alloc]; omega))
    go_wp2_with (refine wpList_store_blk rfl _ _ _ rfl hR2 #[.int .i64 f, .int .i64 m] rfl rfl (by kernel_rfl) (by kernel_rfl) (by kernel_rfl) ?_; intro w5 hB5 hg5 hs5)
    exact ret_cell_t rfl rfl (load_blk hB5 Try.underlying75 rfl (by kernel_rfl)) rfl ⟨rfl, hb.trans (below_grown hg5 hb.size (fun g e => by injection e with e; omega))⟩
  · rw [if_neg h0] at hR
    subst hR
    obtain ⟨e1, e2⟩ := ne_b h0
    have H0 := Lib.hid h0; clear h0
    go_enter Try.func75, Try.ntmps75
    go_upto_region 2 with (go_at_call 57; refine (HK1'.out _ HA.out).mono ?_; rintro e w1 ⟨rfl, hb1⟩)
    have hs1 := hb1.size
    simp only [World.size_alloc] at hs1
    have hR1 := (hR0.below hb1 (by simp)).alloc (.cells #[.int .i64 f, .int .i64 m] 75)
    have hX := Blk.new w1 75 #[.int .i64 f, .int .i64 m]
    have hb := (hb0.trans (hb1.mono (by simp only [World.size_alloc]; omega))).alloc (by omega) (.cells #[.int .i64 f, .int .i64 m] 75)
    have x0 := hX.cell 0
    have x1 := hX.cell 1
    go_wp2_with (refine wpList_store_blk rfl _ _ _ rfl hR1 #[.int .i64 f, .int .i64 m] rfl rfl (by kernel_rfl) (by kernel_rfl) (by kernel_rfl) ?_; intro w5 hB5 hg5 hs5)
    exact ret_cell_t rfl rfl (load_blk hB5 Try.underlying75 rfl (by kernel_rfl)) rfl ⟨rfl, hb.trans (below_grown hg5 hb.size (fun g e => by injection e with e; omega))⟩
end Go.Proofs.Ytanaccoelifcpaa
