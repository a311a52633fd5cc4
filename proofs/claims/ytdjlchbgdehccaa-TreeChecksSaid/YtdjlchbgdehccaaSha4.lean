/- sum.Hash.take: it does what shuntref2.block does. -/
import Derived.Test.YtdjlchbgdehccaaShaB
namespace Go.Proofs.Ytdjlchbgdehccaa
open Go.RowKit

/-- The cells of a digest that is being made. -/
def hashC (h : Nat → Int) (A : Option Addr) (n c : Nat) (m : Int) : Array Value := #[.int .u32 (h 0), .int .u32 (h 1), .int .u32 (h 2), .int .u32 (h 3), .int .u32 (h 4), .int .u32 (h 5), .int .u32 (h 6), .int .u32 (h 7), .slice A n c, .int .i64 m]
theorem hashC_get (h : Nat → Int) (A : Option Addr) (n c : Nat) (m : Int) {i : Nat} (hi : i < 8) : (hashC h A n c m)[i]? = some (.int .u32 (h i)) := by
  have hc : i = 0 ∨ i = 1 ∨ i = 2 ∨ i = 3 ∨ i = 4 ∨ i = 5 ∨ i = 6 ∨ i = 7 := by omega
  rcases hc with rfl | rfl | rfl | rfl | rfl | rfl | rfl | rfl <;> rfl
theorem hashC_set (h : Nat → Int) (A : Option Addr) (n c : Nat) (m : Int) {i : Nat} (hi : i < 8) (x : Int) : (hashC h A n c m).setIfInBounds i (.int .u32 x) = hashC (upd h i x) A n c m := by
  have hc : i = 0 ∨ i = 1 ∨ i = 2 ∨ i = 3 ∨ i = 4 ∨ i = 5 ∨ i = 6 ∨ i = 7 := by omega
  rcases hc with rfl | rfl | rfl | rfl | rfl | rfl | rfl | rfl <;> simp [hashC, upd]
structure WAt (w : World) (f : Nat → Int) (W : World) : Prop where
  wB : Blk W w.heap.size 116 (arr 64 f)
  below : Below w.heap.size w W
theorem WAt.start (w : World) : WAt w (fun _ => 0) (w.alloc (.cells (arr 64 fun _ => 0) 116)) := ⟨Blk.new w _ _, (Below.refl _ _).alloc (Nat.le_refl _) _⟩
theorem WAt.grown {w W W' : World} {f : Nat → Int} (H : WAt w f W) (hg : W.grownBy W' none) : WAt w f W' :=
  ⟨H.wB.grown hg (by simp), H.below.trans (below_grown hg H.below.size (fun g e => by cases e))⟩
theorem WAt.set {w W : World} {f : Nat → Int} (H : WAt w f W) (i : Nat) (x : Int) : WAt w (upd f i x) (W.setCell ⟨w.heap.size, i, none⟩ (.int .u32 x)) := by
  refine ⟨?_, H.below.setCell (p := ⟨w.heap.size, i, none⟩) (Nat.le_refl _) _⟩
  have := H.wB.set i (.int .u32 x)
  rw [arr_set] at this
  exact this
theorem WAt.drew {w W : World} {f : Nat → Int} (H : WAt w f W) : WAt w f W.drew := ⟨H.wB, H.below.drew⟩
/-- The words, the keys, and the eight words that are turned. -/
structure TkAt (w : World) (kg : Nat) (f : Nat → Int) (xg : Nat) (s : Nat → Int) (W : World) : Prop where
  wB : Blk W w.heap.size 116 (arr 64 f)
  kB : Blk W kg 116 (arr 64 keyF)
  xB : Blk W xg 115 (arr 8 s)
  below : Below w.heap.size w W
  far : w.heap.size < kg
  far2 : kg < xg
theorem TkAt.grown {w W W' : World} {f s : Nat → Int} {kg xg : Nat} (H : TkAt w kg f xg s W) (hg : W.grownBy W' none) : TkAt w kg f xg s W' :=
  ⟨H.wB.grown hg (by simp), H.kB.grown hg (by simp), H.xB.grown hg (by simp), H.below.trans (below_grown hg H.below.size (fun g e => by cases e)), H.far, H.far2⟩
theorem TkAt.put {w W : World} {f s : Nat → Int} {kg xg : Nat} (H : TkAt w kg f xg s W) (i : Nat) (x : Int) : TkAt w kg f xg (upd s i x) (W.setCell ⟨xg, i, none⟩ (.int .u32 x)) := by
  have h1 := H.far; have h2 := H.far2
  refine ⟨H.wB.set_ne ⟨xg, i, none⟩ _ (by show w.heap.size ≠ xg; omega), H.kB.set_ne ⟨xg, i, none⟩ _ (by show kg ≠ xg; omega), ?_, H.below.setCell (p := ⟨xg, i, none⟩) (by show w.heap.size ≤ xg; omega) _, h1, h2⟩
  have := H.xB.set i (.int .u32 x)
  rw [arr_set] at this
  exact this
theorem TkAt.congr {w W : World} {f s s' : Nat → Int} {kg xg : Nat} (H : TkAt w kg f xg s W) (e : ∀ k, k < 8 → s k = s' k) : TkAt w kg f xg s' W :=
  ⟨H.wB, H.kB, by have := H.xB; rw [arr_congr e] at this; exact this, H.below, H.far, H.far2⟩
/-- The digest while the turned words are added. -/
structure HsAt (w : World) (hg xg : Nat) (h s : Nat → Int) (A : Option Addr) (n c : Nat) (m : Int) (W : World) : Prop where
  hB : Blk W hg 125 (hashC h A n c m)
  xB : Blk W xg 115 (arr 8 s)
  grown : w.grownBy W (some hg)
  far : hg < xg
theorem HsAt.add {w W : World} {h s : Nat → Int} {hg xg : Nat} {A : Option Addr} {n c : Nat} {m : Int} (H : HsAt w hg xg h s A n c m W) {i : Nat} (hi : i < 8) (x : Int) : HsAt w hg xg (upd h i x) s A n c m ((W.setCell ⟨hg, i, none⟩ (.int .u32 x)).drew) := by
  have h1 := H.far
  refine ⟨?_, H.xB.set_ne ⟨hg, i, none⟩ _ (by show xg ≠ hg; omega), grown_trans H.grown ⟨rfl, rfl, rfl, by simp [World.setCell, World.drew], fun k _ hne => heap_setCell_other W ⟨hg, i, none⟩ k _ fun e => hne (by rw [e])⟩, H.far⟩
  have := H.hB.set i (.int .u32 x)
  rw [hashC_set h A n c m hi] at this
  exact this
theorem wp_world {P : Program} {Q : Exit → Act → World → Prop} {c : Code} {a : Act} {W : World} (S : World → Prop) (h : S W) (k : ∀ W', S W' → c.wp P Q a W') : c.wp P Q a W := k W h
/-- What holds at each jump back to the words. -/
def TakeJ (w : World) (hg bl off c : Nat) (b : Nat → Int) (a : Act) (wr : World) : Prop :=
  ∃ (u : Nat → Value) (i : Nat), a = ⟨List.toArray (.pointer (some ⟨hg, 0, none⟩) :: .slice (some ⟨bl, off, none⟩) 64 c :: u 2 :: u 3 :: .pointer (some ⟨w.heap.size, 0, none⟩) :: .int .i64 (i : Int) :: u 6 :: u 7 :: u 8 :: u 9 :: u 10 :: u 11 :: u 12 :: u 13 :: u 14 :: u 15 :: u 16 :: u 17 :: u 18 :: u 19 :: u 20 :: u 21 :: u 22 :: u 23 :: u 24 :: u 25 :: u 26 :: u 27 :: u 28 :: u 29 :: u 30 :: u 31 :: u 32 :: u 33 :: u 34 :: u 35 :: u 36 :: u 37 :: u 38 :: u 39 :: u 40 :: u 41 :: u 42 :: u 43 :: u 44 :: u 45 :: u 46 :: u 47 :: u 48 :: u 49 :: u 50 :: u 51 :: u 52 :: u 53 :: u 54 :: u 55 :: u 56 :: u 57 :: u 58 :: u 59 :: u 60 :: u 61 :: u 62 :: u 63 :: u 64 :: u 65 :: u 66 :: u 67 :: u 68 :: u 69 :: u 70 :: u 71 :: u 72 :: u 73 :: u 74 :: u 75 :: u 76 :: u 77 :: u 78 :: u 79 :: u 80 :: u 81 :: u 82 :: u 83 :: u 84 :: u 85 :: u 86 :: u 87 :: u 88 :: u 89 :: u 90 :: u 91 :: u 92 :: u 93 :: u 94 :: u 95 :: u 96 :: u 97 :: u 98 :: u 99 :: u 100 :: u 101 :: u 102 :: u 103 :: u 104 :: u 105 :: u 106 :: u 107 :: u 108 :: u 109 :: u 110 :: u 111 :: u 112 :: u 113 :: u 114 :: u 115 :: u 116 :: u 117 :: u 118 :: u 119 :: u 120 :: u 121 :: u 122 :: u 123 :: u 124 :: u 125 :: u 126 :: u 127 :: u 128 :: u 129 :: u 130 :: u 131 :: u 132 :: u 133 :: u 134 :: u 135 :: u 136 :: u 137 :: u 138 :: u 139 :: u 140 :: u 141 :: u 142 :: u 143 :: u 144 :: u 145 :: u 146 :: u 147 :: u 148 :: u 149 :: u 150 :: u 151 :: u 152 :: u 153 :: u 154 :: u 155 :: u 156 :: u 157 :: u 158 :: u 159 :: u 160 :: u 161 :: u 162 :: u 163 :: u 164 :: u 165 :: u 166 :: u 167 :: u 168 :: u 169 :: u 170 :: u 171 :: u 172 :: u 173 :: u 174 :: u 175 :: u 176 :: u 177 :: u 178 :: u 179 :: u 180 :: u 181 :: u 182 :: u 183 :: u 184 :: u 185 :: u 186 :: u 187 :: u 188 :: u 189 :: u 190 :: u 191 :: u 192 :: u 193 :: u 194 :: u 195 :: u 196 :: []), []⟩ ∧ i < 64 ∧ WAt w (wordsF b i) wr
theorem TakeJ.mk {w : World} {hg bl off c : Nat} {b : Nat → Int} {a : Act} {wr : World} (i : Nat) (h : a = ⟨List.toArray (.pointer (some ⟨hg, 0, none⟩) :: .slice (some ⟨bl, off, none⟩) 64 c :: a.tmps.getD 2 undef :: a.tmps.getD 3 undef :: .pointer (some ⟨w.heap.size, 0, none⟩) :: .int .i64 (i : Int) :: a.tmps.getD 6 undef :: a.tmps.getD 7 undef :: a.tmps.getD 8 undef :: a.tmps.getD 9 undef :: a.tmps.getD 10 undef :: a.tmps.getD 11 undef :: a.tmps.getD 12 undef :: a.tmps.getD 13 undef :: a.tmps.getD 14 undef :: a.tmps.getD 15 undef :: a.tmps.getD 16 undef :: a.tmps.getD 17 undef :: a.tmps.getD 18 undef :: a.tmps.getD 19 undef :: a.tmps.getD 20 undef :: a.tmps.getD 21 undef :: a.tmps.getD 22 undef :: a.tmps.getD 23 undef :: a.tmps.getD 24 undef :: a.tmps.getD 25 undef :: a.tmps.getD 26 undef :: a.tmps.getD 27 undef :: a.tmps.getD 28 undef :: a.tmps.getD 29 undef :: a.tmps.getD 30 undef :: a.tmps.getD 31 undef :: a.tmps.getD 32 undef :: a.tmps.getD 33 undef :: a.tmps.getD 34 undef :: a.tmps.getD 35 undef :: a.tmps.getD 36 undef :: a.tmps.getD 37 undef :: a.tmps.getD 38 undef :: a.tmps.getD 39 undef :: a.tmps.getD 40 undef :: a.tmps.getD 41 undef :: a.tmps.getD 42 undef :: a.tmps.getD 43 undef :: a.tmps.getD 44 undef :: a.tmps.getD 45 undef :: a.tmps.getD 46 undef :: a.tmps.getD 47 undef :: a.tmps.getD 48 undef :: a.tmps.getD 49 undef :: a.tmps.getD 50 undef :: a.tmps.getD 51 undef :: a.tmps.getD 52 undef :: a.tmps.getD 53 undef :: a.tmps.getD 54 undef :: a.tmps.getD 55 undef :: a.tmps.getD 56 undef :: a.tmps.getD 57 undef :: a.tmps.getD 58 undef :: a.tmps.getD 59 undef :: a.tmps.getD 60 undef :: a.tmps.getD 61 undef :: a.tmps.getD 62 undef :: a.tmps.getD 63 undef :: a.tmps.getD 64 undef :: a.tmps.getD 65 undef :: a.tmps.getD 66 undef :: a.tmps.getD 67 undef :: a.tmps.getD 68 undef :: a.tmps.getD 69 undef :: a.tmps.getD 70 undef :: a.tmps.getD 71 undef :: a.tmps.getD 72 undef :: a.tmps.getD 73 undef :: a.tmps.getD 74 undef :: a.tmps.getD 75 undef :: a.tmps.getD 76 undef :: a.tmps.getD 77 undef :: a.tmps.getD 78 undef :: a.tmps.getD 79 undef :: a.tmps.getD 80 undef :: a.tmps.getD 81 undef :: a.tmps.getD 82 undef :: a.tmps.getD 83 undef :: a.tmps.getD 84 undef :: a.tmps.getD 85 undef :: a.tmps.getD 86 undef :: a.tmps.getD 87 undef :: a.tmps.getD 88 undef :: a.tmps.getD 89 undef :: a.tmps.getD 90 undef :: a.tmps.getD 91 undef :: a.tmps.getD 92 undef :: a.tmps.getD 93 undef :: a.tmps.getD 94 undef :: a.tmps.getD 95 undef :: a.tmps.getD 96 undef :: a.tmps.getD 97 undef :: a.tmps.getD 98 undef :: a.tmps.getD 99 undef :: a.tmps.getD 100 undef :: a.tmps.getD 101 undef :: a.tmps.getD 102 undef :: a.tmps.getD 103 undef :: a.tmps.getD 104 undef :: a.tmps.getD 105 undef :: a.tmps.getD 106 undef :: a.tmps.getD 107 undef :: a.tmps.getD 108 undef :: a.tmps.getD 109 undef :: a.tmps.getD 110 undef :: a.tmps.getD 111 undef :: a.tmps.getD 112 undef :: a.tmps.getD 113 undef :: a.tmps.getD 114 undef :: a.tmps.getD 115 undef :: a.tmps.getD 116 undef :: a.tmps.getD 117 undef :: a.tmps.getD 118 undef :: a.tmps.getD 119 undef :: a.tmps.getD 120 undef :: a.tmps.getD 121 undef :: a.tmps.getD 122 undef :: a.tmps.getD 123 undef :: a.tmps.getD 124 undef :: a.tmps.getD 125 undef :: a.tmps.getD 126 undef :: a.tmps.getD 127 undef :: a.tmps.getD 128 undef :: a.tmps.getD 129 undef :: a.tmps.getD 130 undef :: a.tmps.getD 131 undef :: a.tmps.getD 132 undef :: a.tmps.getD 133 undef :: a.tmps.getD 134 undef :: a.tmps.getD 135 undef :: a.tmps.getD 136 undef :: a.tmps.getD 137 undef :: a.tmps.getD 138 undef :: a.tmps.getD 139 undef :: a.tmps.getD 140 undef :: a.tmps.getD 141 undef :: a.tmps.getD 142 undef :: a.tmps.getD 143 undef :: a.tmps.getD 144 undef :: a.tmps.getD 145 undef :: a.tmps.getD 146 undef :: a.tmps.getD 147 undef :: a.tmps.getD 148 undef :: a.tmps.getD 149 undef :: a.tmps.getD 150 undef :: a.tmps.getD 151 undef :: a.tmps.getD 152 undef :: a.tmps.getD 153 undef :: a.tmps.getD 154 undef :: a.tmps.getD 155 undef :: a.tmps.getD 156 undef :: a.tmps.getD 157 undef :: a.tmps.getD 158 undef :: a.tmps.getD 159 undef :: a.tmps.getD 160 undef :: a.tmps.getD 161 undef :: a.tmps.getD 162 undef :: a.tmps.getD 163 undef :: a.tmps.getD 164 undef :: a.tmps.getD 165 undef :: a.tmps.getD 166 undef :: a.tmps.getD 167 undef :: a.tmps.getD 168 undef :: a.tmps.getD 169 undef :: a.tmps.getD 170 undef :: a.tmps.getD 171 undef :: a.tmps.getD 172 undef :: a.tmps.getD 173 undef :: a.tmps.getD 174 undef :: a.tmps.getD 175 undef :: a.tmps.getD 176 undef :: a.tmps.getD 177 undef :: a.tmps.getD 178 undef :: a.tmps.getD 179 undef :: a.tmps.getD 180 undef :: a.tmps.getD 181 undef :: a.tmps.getD 182 undef :: a.tmps.getD 183 undef :: a.tmps.getD 184 undef :: a.tmps.getD 185 undef :: a.tmps.getD 186 undef :: a.tmps.getD 187 undef :: a.tmps.getD 188 undef :: a.tmps.getD 189 undef :: a.tmps.getD 190 undef :: a.tmps.getD 191 undef :: a.tmps.getD 192 undef :: a.tmps.getD 193 undef :: a.tmps.getD 194 undef :: a.tmps.getD 195 undef :: a.tmps.getD 196 undef :: []), []⟩) (hi : i < 64) (hw : WAt w (wordsF b i) wr) : TakeJ w hg bl off c b a wr :=
  ⟨fun k => a.tmps.getD k undef, i, h, hi, hw⟩
def takeMu (a : Act) (_ : World) : Nat := 64 - (intOf (a.tmps.getD 5 undef)).toNat
def TakeRes (h b : Nat → Int) (hg : Nat) (A : Option Addr) (n c : Nat) (m : Int) (w : World) (e : Ending) (w' : World) : Prop :=
  e = .returned (.tuple #[]) ∧ Blk w' hg 125 (hashC (blockF h keyF b) A n c m) ∧ w.grownBy w' (some hg)
set_option maxRecDepth 100000 in
set_option maxHeartbeats 40000000 in
theorem take_any (h0 b : Nat → Int) (hg : Nat) (A : Option Addr) (n cc : Nat) (m : Int) (bl off c : Nat) (w : World) (hH : Blk w hg 125 (hashC h0 A n cc m)) (hbl : bl < w.heap.size) (hb : ∀ j, j < 64 → w.cell? ⟨bl, off + j, none⟩ = some (.int .u8 (b j))) :
    Calls Try.prog 98 #[.pointer (some ⟨hg, 0, none⟩), .slice (some ⟨bl, off, none⟩) 64 c] w (TakeRes h0 b hg A n cc m w) := by
  have HB := Lib.hid hb; have HH := Lib.hid hH; clear hb hH
  have hhg := HH.out.lt
  go_enter Try.func98, Try.ntmps98
  go_wp2
  refine wp_scope_J 0 (TakeJ w hg bl off c b) takeMu (by rfl) ?_ fun pass => ?_
  · rintro a wr ⟨u, i, rfl, hi, hA⟩
    have hi6 : (i : Int) < 64 := by omega
    by_cases hlt : i < 16
    · have hii : (i : Int) < 16 := by omega
      have hbe := hA.below
      have q0 := (hbe.cell (p := ⟨bl, off + 4 * i, none⟩) hbl).trans (HB.out (4 * i) (by omega))
      have q1 := (hbe.cell (p := ⟨bl, off + (4 * i + 1), none⟩) hbl).trans (HB.out (4 * i + 1) (by omega))
      have q2 := (hbe.cell (p := ⟨bl, off + (4 * i + 2), none⟩) hbl).trans (HB.out (4 * i + 2) (by omega))
      have q3 := (hbe.cell (p := ⟨bl, off + (4 * i + 3), none⟩) hbl).trans (HB.out (4 * i + 3) (by omega))
      have hbw : bl < wr.heap.size := Nat.lt_of_lt_of_le hbl hbe.size
      have hww := hA.wB.lt
      have hwf := hA.wB.frozen i
      have hwc := (hA.wB.cell i).trans (arr_get (by omega))
      have HA' := Lib.hid (hA.set i (word4 b i)).drew
      have HW := Lib.hid (show wordsF b (i + 1) = upd (wordsF b i) i (word4 b i) by rw [wordsF, if_pos hlt])
      clear hA hbe
      go_upto_region 5 with (fail)
      refine wp_region_ordG (none) [(0, true), (1, true), (2, true), (3, true), (4, true), (5, true), (6, true), (7, true), (8, true), (9, true), (10, true), (11, true), (12, true), (13, true), (14, true), (15, true), (16, true), (17, true), (18, true), (19, true), (20, true), (21, true), (22, true), (23, true), (24, true), (25, true), (26, true), (27, true), (28, true), (29, true), (30, true), (31, true), (32, true), (33, true), (34, true)] 35 (by kernel_rfl) (by kernel_rfl) fun hG0 => ?_
      repeat (first
        | (refine ord_skipB rfl (by rfl) ?_; simp only [Act.put, List.setIfInBounds_toArray, List.set_cons_zero, List.set_cons_succ])
        | (refine ord_qE rfl (by rfl) ?_; apply Exists.intro; refine ⟨fun w' hc' => ?_, ?_⟩; (focus (go_simp; (try go_bits); (try simp only [↓IntWalk.iteOmega]); with_reducible rfl)); simp only [Act.put, List.setIfInBounds_toArray, List.set_cons_zero, List.set_cons_succ]))
      refine ord_tail rfl fun K hK => ?_
      go_wp2_with (fail)
      refine hK.out _ _ ?_
      clear hK K
      clear q0 q1 q2 q3 hwf hwc hww hbw hG0
      have hi7 : (i : Int) + 1 < 64 := by omega
      go_wp2
      refine wp_goto (And.intro rfl (And.intro (TakeJ.mk (i + 1) rfl (by omega) (by rw [HW.out]; exact HA'.out)) ?_))
      simp [takeMu, intOf]
      omega
    · have hii : ¬ (i : Int) < 16 := by omega
      have HA := Lib.hid hA; clear hA
      have q15 := (HA.out.wB.cell (i - 15)).trans (arr_get (by omega))
      have q2 := (HA.out.wB.cell (i - 2)).trans (arr_get (by omega))
      have hww := HA.out.wB.lt
      go_upto_region 2 with (fail)
      refine wp_region_ordB (none) [(0, true), (1, true), (2, true), (3, true), (4, true), (5, true), (6, true), (7, true), (8, true), (9, true)] (by kernel_rfl) (by kernel_rfl) fun hG0 => ?_
      repeat (first
        | (refine ord_skipB rfl (by rfl) ?_; simp only [Act.put, List.setIfInBounds_toArray, List.set_cons_zero, List.set_cons_succ])
        | (refine ord_qE rfl (by rfl) ?_; apply Exists.intro; refine ⟨fun w' hc' => ?_, ?_⟩; (focus (go_simp; (try go_bits); (try simp only [↓IntWalk.iteOmega]); with_reducible rfl)); simp only [Act.put, List.setIfInBounds_toArray, List.set_cons_zero, List.set_cons_succ]))
      refine ord_end ?_
      have HA2 := Lib.hid (HA.out.grown hG0)
      clear hG0 q15 q2 hww HA
      obtain ⟨W2, hW2⟩ : ∃ W, wr.drew = W := ⟨_, rfl⟩
      rw [hW2] at HA2 ⊢
      clear hW2
      have q16 := (HA2.out.wB.cell (i - 16)).trans (arr_get (by omega))
      have q7 := (HA2.out.wB.cell (i - 7)).trans (arr_get (by omega))
      have hwc := (HA2.out.wB.cell i).trans (arr_get (by omega))
      have hwf := HA2.out.wB.frozen i
      have hww := HA2.out.wB.lt
      go_upto_region 3 with (fail)
      refine wp_region_ordG (none) [(0, true), (1, true), (2, true), (3, true), (4, true), (5, true), (6, true), (7, true), (8, true), (9, true), (10, true), (12, true), (15, true), (16, true), (19, true), (21, true), (24, true), (25, true), (11, false), (13, false), (14, true), (17, true), (18, true), (20, false), (22, false), (23, true), (26, true), (27, true), (28, true)] 29 (by kernel_rfl) (by kernel_rfl) fun hG0 => ?_
      repeat (first
        | (refine ord_skipB rfl (by rfl) ?_; simp only [Act.put, List.setIfInBounds_toArray, List.set_cons_zero, List.set_cons_succ])
        | (refine ord_qE rfl (by rfl) ?_; apply Exists.intro; refine ⟨fun w' hc' => ?_, ?_⟩; (focus (go_simp; (try go_bits); (try simp only [↓IntWalk.iteOmega]); with_reducible rfl)); simp only [Act.put, List.setIfInBounds_toArray, List.set_cons_zero, List.set_cons_succ]))
      refine ord_eB rfl fun K hK => ?_
      go_wp2_with (go_at_call 107; refine (turn_at _ _ 7 (by decide) (by decide) (by decide) _).mono ?_; rintro e v1 ⟨rfl, hv1⟩)
      have hG1 := grown_trans hG0 (hv1)
      refine hK.out _ _ hG1 ?_
      clear hK K
      repeat (first
        | (refine ord_skipB rfl (by rfl) ?_; simp only [Act.put, List.setIfInBounds_toArray, List.set_cons_zero, List.set_cons_succ])
        | (refine ord_qE rfl (by rfl) ?_; apply Exists.intro; refine ⟨fun w' hc' => ?_, ?_⟩; (focus (go_simp; (try go_bits); (try simp only [↓IntWalk.iteOmega]); with_reducible rfl)); simp only [Act.put, List.setIfInBounds_toArray, List.set_cons_zero, List.set_cons_succ]))
      refine ord_eB rfl fun K hK => ?_
      go_wp2_with (go_at_call 107; refine (turn_at _ _ 18 (by decide) (by decide) (by decide) _).mono ?_; rintro e v2 ⟨rfl, hv2⟩)
      have hG2 := grown_trans hG1 (hv2)
      refine hK.out _ _ hG2 ?_
      clear hK K
      repeat (first
        | (refine ord_skipB rfl (by rfl) ?_; simp only [Act.put, List.setIfInBounds_toArray, List.set_cons_zero, List.set_cons_succ])
        | (refine ord_qE rfl (by rfl) ?_; apply Exists.intro; refine ⟨fun w' hc' => ?_, ?_⟩; (focus (go_simp; (try go_bits); (try simp only [↓IntWalk.iteOmega]); with_reducible rfl)); simp only [Act.put, List.setIfInBounds_toArray, List.set_cons_zero, List.set_cons_succ]))
      refine ord_eB rfl fun K hK => ?_
      go_wp2_with (go_at_call 107; refine (turn_at _ _ 17 (by decide) (by decide) (by decide) _).mono ?_; rintro e v3 ⟨rfl, hv3⟩)
      have hG3 := grown_trans hG2 (hv3)
      refine hK.out _ _ hG3 ?_
      clear hK K
      repeat (first
        | (refine ord_skipB rfl (by rfl) ?_; simp only [Act.put, List.setIfInBounds_toArray, List.set_cons_zero, List.set_cons_succ])
        | (refine ord_qE rfl (by rfl) ?_; apply Exists.intro; refine ⟨fun w' hc' => ?_, ?_⟩; (focus (go_simp; (try go_bits); (try simp only [↓IntWalk.iteOmega]); with_reducible rfl)); simp only [Act.put, List.setIfInBounds_toArray, List.set_cons_zero, List.set_cons_succ]))
      refine ord_eB rfl fun K hK => ?_
      go_wp2_with (go_at_call 107; refine (turn_at _ _ 19 (by decide) (by decide) (by decide) _).mono ?_; rintro e v4 ⟨rfl, hv4⟩)
      have hG4 := grown_trans hG3 (hv4)
      refine hK.out _ _ hG4 ?_
      clear hK K
      repeat (first
        | (refine ord_skipB rfl (by rfl) ?_; simp only [Act.put, List.setIfInBounds_toArray, List.set_cons_zero, List.set_cons_succ])
        | (refine ord_qE rfl (by rfl) ?_; apply Exists.intro; refine ⟨fun w' hc' => ?_, ?_⟩; (focus (go_simp; (try go_bits); (try simp only [↓IntWalk.iteOmega]); with_reducible rfl)); simp only [Act.put, List.setIfInBounds_toArray, List.set_cons_zero, List.set_cons_succ]))
      have HA3 := HA2.out.grown hG4
      have hwf4 := HA3.wB.frozen i
      have hww4 := HA3.wB.lt
      have hwc4 := (HA3.wB.cell i).trans (arr_get (by omega))
      have HV := Lib.hid (show ∀ x, x = wst (wordsF b i) i → WAt w (wordsF b (i + 1)) (v4.setCell ⟨w.heap.size, i, none⟩ (.int .u32 x)) from fun x e => by
        have := HA3.set i x
        rw [e] at this ⊢
        rw [wordsF, if_neg (by omega)]
        exact this)
      clear HA3 HA2 hG1 hG2 hG3 hG4 hv1 hv2 hv3 hv4
      refine ord_tail rfl fun K hK => ?_
      go_wp2_with (fail)
      refine hK.out _ _ ?_
      clear hK K
      by_cases h63 : i + 1 < 64
      · have hi7 : (i : Int) + 1 < 64 := by omega
        go_wp2
        refine wp_goto (And.intro rfl (And.intro (TakeJ.mk (i + 1) rfl (by omega) (HV.out _ (by unfold wst sg0 sg1; omega))) ?_))
        simp [takeMu, intOf]
        omega
      · have hi7 : ¬ (i : Int) + 1 < 64 := by omega
        have hie : i + 1 = 64 := by omega
        have hff := HH.out.frozen 0
        have HA4 := Lib.hid (show ∀ x, x = wst (wordsF b i) i → WAt w (wordsF b 64) (v4.setCell ⟨w.heap.size, i, none⟩ (.int .u32 x)) from fun x e => by rw [← hie]; exact HV.out x e)
        clear hie h63 HV hff
        go_upto_region 8 with (fail)
        refine wp_world (WAt w (wordsF b 64)) (HA4.out _ (by unfold wst sg0 sg1; omega)) fun W5 hW5 => ?_
        clear HA4 hwf4 hww4 hwc4 hwf hwc hww q16 q7 hG0 hi7 hii hi6 hlt hi
        have HW5 := Lib.hid hW5; clear hW5
        obtain ⟨wf, hwf⟩ : ∃ f, wordsF b 64 = f := ⟨_, rfl⟩
        rw [hwf] at HW5
        have HE := Lib.hid (show ∀ X, rndsF h0 keyF wf 64 = X → blockF h0 keyF b = addF h0 X 8 from fun X e => by rw [← e, ← hwf]; rfl)
        clear hwf
        go_upto_region 9 with (first | (go_at_call 108; refine (key_any _).mono ?_; rintro e v5 ⟨rfl, hv5⟩) | (refine wpList_store_blk rfl 116 (.tmp 8) (.tmp 95) rfl (Blk.new v5 116 _) (arr 64 keyF) rfl rfl (by kernel_rfl) (by kernel_rfl) (by kernel_rfl) ?_; intro w6 hX6 hg6 hs6))
        have hwlt := Nat.lt_of_lt_of_le HW5.out.wB.lt hv5.size
        have HW6 := Lib.hid (show WAt w wf w6 from ⟨((HW5.out.wB.below hv5 HW5.out.wB.lt).alloc _).grown hg6 (fun e => by injection e with e; omega), (HW5.out.below.trans (hv5.mono HW5.out.below.size)).trans (((Below.refl _ _).alloc (Nat.le_of_lt hwlt) _).trans (below_grown hg6 (by simp; omega) (fun g e => by injection e with e; omega)))⟩)
        have hfar := hwlt
        clear hwlt hg6 hs6 hv5 HW5
        obtain ⟨kg, hkg⟩ : ∃ g, v5.heap.size = g := ⟨_, rfl⟩
        rw [hkg] at hX6 hfar ⊢
        clear hkg
        have HK6 := Lib.hid hX6; clear hX6
        have hH6 := (HH.out.below HW6.out.below hhg)
        have z0 := hH6.cell 0; have z1 := hH6.cell 1; have z2 := hH6.cell 2; have z3 := hH6.cell 3; have z4 := hH6.cell 4; have z5 := hH6.cell 5; have z6 := hH6.cell 6; have z7 := hH6.cell 7
        rw [hashC_get h0 A n cc m (by omega)] at z0 z1 z2 z3 z4 z5 z6 z7
        clear hH6
        go_upto_region 10 with (refine wpList_store_blk rfl 115 (.tmp 9) (.tmp 99) rfl (Blk.new w6 115 _) (arr 8 h0) rfl rfl (by kernel_rfl) (by kernel_rfl) (by kernel_rfl) ?_; intro w7 hX7 hg7 hs7)
        clear z0 z1 z2 z3 z4 z5 z6 z7
        have hkx : kg < w6.heap.size := HK6.out.lt
        have HT := Lib.hid (show TkAt w kg wf w6.heap.size (rndsF h0 keyF wf 0) w7 from ⟨(HW6.out.wB.alloc _).grown hg7 (fun e => by injection e with e; omega), (HK6.out.alloc _).grown hg7 (fun e => by injection e with e; omega), hX7, HW6.out.below.trans (((Below.refl _ _).alloc HW6.out.below.size _).trans (below_grown hg7 (by have := HW6.out.below.size; simp; omega) (fun g e => by have := HW6.out.below.size; injection e with e; omega))), hfar, hkx⟩)
        clear hX7 hg7 hs7 HK6 hfar
        have hxx := HW6.out.below.size
        obtain ⟨xg, hxg⟩ : ∃ g, w6.heap.size = g := ⟨_, rfl⟩
        rw [hxg] at HT hxx hkx ⊢
        clear HW6 hxg
        go_wp2
        go_loopw [100] (fun v wr => ∃ j : Nat, j ≤ 64 ∧ v = .int .i64 j ∧ TkAt w kg wf xg (rndsF h0 keyF wf j) wr) (fun v _ => 64 - (intOf v).toNat)
        case atStart => exact ⟨0, Nat.zero_le _, rfl, HT.out⟩
        case round =>
        clear HT
        obtain ⟨j, hj, rfl, hA⟩ := hrel
        by_cases hlt : j < 64
        · have hji : (j : Int) < 64 := by omega
          obtain ⟨s, hs⟩ : ∃ s, rndsF h0 keyF wf j = s := ⟨_, rfl⟩
          have HSn := Lib.hid (show rndsF h0 keyF wf (j + 1) = rndF (keyF j) (wf j) s by rw [rndsF, hs])
          rw [hs] at hA
          have HA := Lib.hid hA; clear hA hs
          have x0 := (HA.out.xB.cell 0).trans (arr_get (by omega))
          have x4 := (HA.out.xB.cell 4).trans (arr_get (by omega))
          have hxw := HA.out.xB.lt
          go_upto_region 13 with (fail)
          refine wp_region_ordB (none) [(0, true), (1, true), (2, true), (3, true), (4, true), (5, true)] (by kernel_rfl) (by kernel_rfl) fun hG0 => ?_
          repeat (first
            | (refine ord_skipB rfl (by rfl) ?_; simp only [Act.put, List.setIfInBounds_toArray, List.set_cons_zero, List.set_cons_succ])
            | (refine ord_qE rfl (by rfl) ?_; apply Exists.intro; refine ⟨fun w' hc' => ?_, ?_⟩; (focus (go_simp; (try go_bits); (try simp only [↓IntWalk.iteOmega]); with_reducible rfl)); simp only [Act.put, List.setIfInBounds_toArray, List.set_cons_zero, List.set_cons_succ]))
          refine ord_end ?_
          have HA0 := Lib.hid (HA.out.grown hG0)
          clear hG0 x0 x4 hxw HA
          obtain ⟨W1, hW1⟩ : ∃ W, wr.drew = W := ⟨_, rfl⟩
          rw [hW1] at HA0 ⊢
          clear hW1
          have x5 := (HA0.out.xB.cell 5).trans (arr_get (by omega))
          have x6 := (HA0.out.xB.cell 6).trans (arr_get (by omega))
          have x7 := (HA0.out.xB.cell 7).trans (arr_get (by omega))
          have hkc := (HA0.out.kB.cell j).trans (arr_get hlt)
          have hwc := (HA0.out.wB.cell j).trans (arr_get hlt)
          have hxw := HA0.out.xB.lt
          have hkw := HA0.out.kB.lt
          have hww := HA0.out.wB.lt
          go_upto_region 14 with (fail)
          refine wp_region_ordB (none) [(0, true), (1, true), (2, true), (4, true), (7, true), (11, true), (12, true), (13, true), (14, true), (15, true), (16, true), (17, true), (18, true), (19, true), (20, true), (22, true), (23, true), (24, true), (26, true), (27, true), (28, true), (3, false), (5, false), (6, true), (8, false), (9, true), (10, true), (21, true), (25, true), (29, true), (30, true)] (by kernel_rfl) (by kernel_rfl) fun hG0 => ?_
          repeat (first
            | (refine ord_skipB rfl (by rfl) ?_; simp only [Act.put, List.setIfInBounds_toArray, List.set_cons_zero, List.set_cons_succ])
            | (refine ord_qE rfl (by rfl) ?_; apply Exists.intro; refine ⟨fun w' hc' => ?_, ?_⟩; (focus (go_simp; (try go_bits); (try simp only [↓IntWalk.iteOmega]); with_reducible rfl)); simp only [Act.put, List.setIfInBounds_toArray, List.set_cons_zero, List.set_cons_succ]))
          refine ord_eB rfl fun K hK => ?_
          go_wp2_with (go_at_call 107; refine (turn_at _ _ 6 (by decide) (by decide) (by decide) _).mono ?_; rintro e v1 ⟨rfl, hv1⟩)
          have hG1 := grown_trans hG0 (hv1)
          refine hK.out _ _ hG1 ?_
          clear hK K
          repeat (first
            | (refine ord_skipB rfl (by rfl) ?_; simp only [Act.put, List.setIfInBounds_toArray, List.set_cons_zero, List.set_cons_succ])
            | (refine ord_qE rfl (by rfl) ?_; apply Exists.intro; refine ⟨fun w' hc' => ?_, ?_⟩; (focus (go_simp; (try go_bits); (try simp only [↓IntWalk.iteOmega]); with_reducible rfl)); simp only [Act.put, List.setIfInBounds_toArray, List.set_cons_zero, List.set_cons_succ]))
          refine ord_eB rfl fun K hK => ?_
          go_wp2_with (go_at_call 107; refine (turn_at _ _ 11 (by decide) (by decide) (by decide) _).mono ?_; rintro e v2 ⟨rfl, hv2⟩)
          have hG2 := grown_trans hG1 (hv2)
          refine hK.out _ _ hG2 ?_
          clear hK K
          repeat (first
            | (refine ord_skipB rfl (by rfl) ?_; simp only [Act.put, List.setIfInBounds_toArray, List.set_cons_zero, List.set_cons_succ])
            | (refine ord_qE rfl (by rfl) ?_; apply Exists.intro; refine ⟨fun w' hc' => ?_, ?_⟩; (focus (go_simp; (try go_bits); (try simp only [↓IntWalk.iteOmega]); with_reducible rfl)); simp only [Act.put, List.setIfInBounds_toArray, List.set_cons_zero, List.set_cons_succ]))
          refine ord_eB rfl fun K hK => ?_
          go_wp2_with (go_at_call 107; refine (turn_at _ _ 25 (by decide) (by decide) (by decide) _).mono ?_; rintro e v3 ⟨rfl, hv3⟩)
          have hG3 := grown_trans hG2 (hv3)
          refine hK.out _ _ hG3 ?_
          clear hK K
          repeat (first
            | (refine ord_skipB rfl (by rfl) ?_; simp only [Act.put, List.setIfInBounds_toArray, List.set_cons_zero, List.set_cons_succ])
            | (refine ord_qE rfl (by rfl) ?_; apply Exists.intro; refine ⟨fun w' hc' => ?_, ?_⟩; (focus (go_simp; (try go_bits); (try simp only [↓IntWalk.iteOmega]); with_reducible rfl)); simp only [Act.put, List.setIfInBounds_toArray, List.set_cons_zero, List.set_cons_succ]))
          refine ord_end ?_
          have HA1 := Lib.hid (HA0.out.grown hG3)
          clear hG0 hG1 hG2 hG3 hv1 hv2 hv3 x5 x6 x7 hkc hwc hxw hkw hww HA0
          have x1 := (HA1.out.xB.cell 1).trans (arr_get (by omega))
          have x2 := (HA1.out.xB.cell 2).trans (arr_get (by omega))
          have hxw := HA1.out.xB.lt
          go_upto_region 15 with (fail)
          refine wp_region_ordB (none) [(0, true), (2, true), (5, true), (8, true), (9, true), (10, true), (11, true), (12, true), (13, true), (14, true), (15, true), (16, true), (17, true), (18, true), (19, true), (20, true), (21, true), (22, true), (1, false), (3, false), (4, true), (6, false), (7, true), (23, true), (24, true)] (by kernel_rfl) (by kernel_rfl) fun hG0 => ?_
          repeat (first
            | (refine ord_skipB rfl (by rfl) ?_; simp only [Act.put, List.setIfInBounds_toArray, List.set_cons_zero, List.set_cons_succ])
            | (refine ord_qE rfl (by rfl) ?_; apply Exists.intro; refine ⟨fun w' hc' => ?_, ?_⟩; (focus (go_simp; (try go_bits); (try simp only [↓IntWalk.iteOmega]); with_reducible rfl)); simp only [Act.put, List.setIfInBounds_toArray, List.set_cons_zero, List.set_cons_succ]))
          refine ord_eB rfl fun K hK => ?_
          go_wp2_with (go_at_call 107; refine (turn_at _ _ 2 (by decide) (by decide) (by decide) _).mono ?_; rintro e v4 ⟨rfl, hv4⟩)
          have hG1 := grown_trans hG0 (hv4)
          refine hK.out _ _ hG1 ?_
          clear hK K
          repeat (first
            | (refine ord_skipB rfl (by rfl) ?_; simp only [Act.put, List.setIfInBounds_toArray, List.set_cons_zero, List.set_cons_succ])
            | (refine ord_qE rfl (by rfl) ?_; apply Exists.intro; refine ⟨fun w' hc' => ?_, ?_⟩; (focus (go_simp; (try go_bits); (try simp only [↓IntWalk.iteOmega]); with_reducible rfl)); simp only [Act.put, List.setIfInBounds_toArray, List.set_cons_zero, List.set_cons_succ]))
          refine ord_eB rfl fun K hK => ?_
          go_wp2_with (go_at_call 107; refine (turn_at _ _ 13 (by decide) (by decide) (by decide) _).mono ?_; rintro e v5 ⟨rfl, hv5⟩)
          have hG2 := grown_trans hG1 (hv5)
          refine hK.out _ _ hG2 ?_
          clear hK K
          repeat (first
            | (refine ord_skipB rfl (by rfl) ?_; simp only [Act.put, List.setIfInBounds_toArray, List.set_cons_zero, List.set_cons_succ])
            | (refine ord_qE rfl (by rfl) ?_; apply Exists.intro; refine ⟨fun w' hc' => ?_, ?_⟩; (focus (go_simp; (try go_bits); (try simp only [↓IntWalk.iteOmega]); with_reducible rfl)); simp only [Act.put, List.setIfInBounds_toArray, List.set_cons_zero, List.set_cons_succ]))
          refine ord_eB rfl fun K hK => ?_
          go_wp2_with (go_at_call 107; refine (turn_at _ _ 22 (by decide) (by decide) (by decide) _).mono ?_; rintro e v6 ⟨rfl, hv6⟩)
          have hG3 := grown_trans hG2 (hv6)
          refine hK.out _ _ hG3 ?_
          clear hK K
          repeat (first
            | (refine ord_skipB rfl (by rfl) ?_; simp only [Act.put, List.setIfInBounds_toArray, List.set_cons_zero, List.set_cons_succ])
            | (refine ord_qE rfl (by rfl) ?_; apply Exists.intro; refine ⟨fun w' hc' => ?_, ?_⟩; (focus (go_simp; (try go_bits); (try simp only [↓IntWalk.iteOmega]); with_reducible rfl)); simp only [Act.put, List.setIfInBounds_toArray, List.set_cons_zero, List.set_cons_succ]))
          refine ord_end ?_
          have HA3 := Lib.hid (HA1.out.grown hG3)
          clear hG0 hG1 hG2 hG3 hv4 hv5 hv6 x1 x2 hxw HA1
          go_upto_region 16 with (fail)
          generalize hT : (s 7 + bits .xor .u32 (bits .xor .u32 (rot (s 4) 6) (rot (s 4) 11)) (rot (s 4) 25) + bits .xor .u32 (bits .and .u32 (s 4) (s 5)) (bits .and .u32 (bits .xor .u32 IntKind.u32.max (s 4)) (s 6)) + keyF j + wf j) % 4294967296 = T
          generalize hU : (bits .xor .u32 (bits .xor .u32 (rot (s 0) 2) (rot (s 0) 13)) (rot (s 0) 22) + bits .xor .u32 (bits .xor .u32 (bits .and .u32 (s 0) (s 1)) (bits .and .u32 (s 0) (s 2))) (bits .and .u32 (s 1) (s 2))) % 4294967296 = U
          have HT := Lib.hid (show tF (keyF j) (wf j) s = T from hT)
          have HU := Lib.hid (show uF s = U from hU)
          clear hT hU
          have x1 := (HA3.out.xB.cell 1).trans (arr_get (by omega))
          have x2 := (HA3.out.xB.cell 2).trans (arr_get (by omega))
          have x3 := (HA3.out.xB.cell 3).trans (arr_get (by omega))
          have x5 := (HA3.out.xB.cell 5).trans (arr_get (by omega))
          have x6 := (HA3.out.xB.cell 6).trans (arr_get (by omega))
          have x0 := (HA3.out.xB.cell 0).trans (arr_get (by omega))
          have x4 := (HA3.out.xB.cell 4).trans (arr_get (by omega))
          have x7 := (HA3.out.xB.cell 7).trans (arr_get (by omega))
          have hxw := HA3.out.xB.lt
          have f0 := HA3.out.xB.frozen 0; have f1 := HA3.out.xB.frozen 1; have f2 := HA3.out.xB.frozen 2; have f3 := HA3.out.xB.frozen 3
          have f4 := HA3.out.xB.frozen 4; have f5 := HA3.out.xB.frozen 5; have f6 := HA3.out.xB.frozen 6; have f7 := HA3.out.xB.frozen 7
          have HA7 := Lib.hid ((((((((((HA3.out.put 0 ((T + U) % 4294967296)).put 1 (s 0)).put 2 (s 1)).put 3 (s 2)).put 4 ((s 3 + T) % 4294967296)).put 5 (s 4)).put 6 (s 5)).put 7 (s 6))).congr (s' := rndsF h0 keyF wf (j + 1)) (fun k hk => by
            rw [HSn.out]
            have hc : k = 0 ∨ k = 1 ∨ k = 2 ∨ k = 3 ∨ k = 4 ∨ k = 5 ∨ k = 6 ∨ k = 7 := by omega
            rcases hc with rfl | rfl | rfl | rfl | rfl | rfl | rfl | rfl <;> simp [upd, rndF, HT.out, HU.out]))
          clear HA3
          go_wp2
          go_roundw
          case rel => exact ⟨j + 1, by omega, by go_num, HA7.out⟩
          case measure => simp [intOf]; omega
        · have hji : ¬ (j : Int) < 64 := by omega
          have hje : j = 64 := by omega
          rw [hje] at hA
          obtain ⟨X, hX⟩ : ∃ X, rndsF h0 keyF wf 64 = X := ⟨_, rfl⟩
          have HE' := Lib.hid (HE.out X hX)
          rw [hX] at hA
          have HQ := Lib.hid (show HsAt w hg xg (addF h0 X 0) X A n cc m wr from ⟨HH.out.below hA.below hhg, hA.xB, grown_below hA.below (Nat.le_refl _), by omega⟩)
          clear hX hje hlt hj hA HE
          go_wp2
          go_loopw [180] (fun v wr => ∃ i : Nat, i ≤ 8 ∧ v = .int .i64 i ∧ HsAt w hg xg (addF h0 X i) X A n cc m wr) (fun v _ => 8 - (intOf v).toNat)
          case atStart => exact ⟨0, Nat.zero_le _, rfl, HQ.out⟩
          case round =>
          clear HQ
          obtain ⟨i, hi, rfl, hA⟩ := hrel
          by_cases hlt : i < 8
          · have hii : (i : Int) < 8 := by omega
            have HA := Lib.hid hA; clear hA
            have q0 := (HA.out.hB.cell i).trans (hashC_get _ _ _ _ _ hlt)
            have q1 := (HA.out.xB.cell i).trans (arr_get hlt)
            have hhw := HA.out.hB.lt
            have hxw := HA.out.xB.lt
            have hhf := HA.out.hB.frozen i
            have HA' := Lib.hid (HA.out.add hlt ((addF h0 X i i + X i) % 4294967296))
            clear HA
            go_upto_region 21 with (fail)
            refine wp_region_ordG (none) [(0, true), (1, true), (2, true), (3, true), (4, true), (5, true), (6, true), (7, true), (8, true), (9, true), (10, true), (11, true), (12, true)] 13 (by kernel_rfl) (by kernel_rfl) fun hG0 => ?_
            repeat (first
              | (refine ord_skipB rfl (by rfl) ?_; simp only [Act.put, List.setIfInBounds_toArray, List.set_cons_zero, List.set_cons_succ])
              | (refine ord_qE rfl (by rfl) ?_; apply Exists.intro; refine ⟨fun w' hc' => ?_, ?_⟩; (focus (go_simp; (try go_bits); (try simp only [↓IntWalk.iteOmega]); with_reducible rfl)); simp only [Act.put, List.setIfInBounds_toArray, List.set_cons_zero, List.set_cons_succ]))
            refine ord_tail rfl fun K hK => ?_
            go_wp2_with (fail)
            refine hK.out _ _ ?_
            clear hK K
            clear q0 q1 hhw hxw hhf hG0
            go_wp2
            go_roundw
            case rel => exact ⟨i + 1, by omega, by go_num, HA'.out⟩
            case measure => simp [intOf]; omega
          · have hii : ¬ (i : Int) < 8 := by omega
            have hie : i = 8 := by omega
            rw [hie, ← HE'.out] at hA
            obtain ⟨Y, hY⟩ : ∃ Y, blockF h0 keyF b = Y := ⟨_, rfl⟩
            rw [hY] at hA
            have HY := Lib.hid hY
            clear hie hlt hi hY HE'
            have HA := Lib.hid hA; clear hA
            go_wp2
            exact bodyPost_end (results_none rfl _ _ _) rfl ⟨rfl, by rw [HY.out]; exact HA.out.hB, HA.out.grown⟩
  · have hAs := WAt.start w
    go_wp2
    rw [← arr_zero]
    refine wp_label ?_
    go_step
    go_step
    refine pass _ _ ?_
    exact TakeJ.mk 0 rfl (by omega) hAs
end Go.Proofs.Ytdjlchbgdehccaa
