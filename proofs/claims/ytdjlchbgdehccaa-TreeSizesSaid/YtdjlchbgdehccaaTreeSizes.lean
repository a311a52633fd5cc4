/- TreeSizes. -/
import Derived.Test.YtdjlchbgdehccaaAliveT
import Derived.Test.YtdjlchbgdehccaaWbad
import Derived.Test.YtdjlchbgdehccaaStore
import Derived.Test.YtdjlchbgdehccaaBase
namespace Go.Proofs.Ytdjlchbgdehccaa.treeSizesDone
open Go.ChangeShapes Go.WideShapes Go.ChangeAt Go.RowKit Go.Deep

theorem Try.byteT : ElemT Try.prog 27 5 1 1 := ElemT.mk' (z := .int .u8 0) Try.underlying27 (by kernel_rfl) rfl (by omega)
def fN : Node := ⟨⟨#[102]⟩, 0, 0, by decide⟩
def tv (h g n b : Nat) : TV := ⟨[fN], [⟨0, some ⟨g, 0, none⟩, n, n⟩], some ⟨h, 0, none⟩, 1, 1, some ⟨b, 0, none⟩, 1, 1⟩
theorem tv_run (h g n b : Nat) : looseRun (tv h g n b).nodes k0 0 ByteArray.empty = some 1 := by kernel_rfl
theorem tv_bound (h g n b : Nat) : boundB (tv h g n b) = decide (8192 < n) := by simp [boundB, tv, anyLong]
theorem tv_loose {h g n b : Nat} (hn : ¬ 8192 < n) : looseE (tv h g n b) = 0 := by
  rw [looseE, tv_bound, tv_run, if_neg (by simpa using hn)]
  rfl
theorem tv_long {h g n b : Nat} (hn : 8192 < n) : looseE (tv h g n b) = 31 := by
  rw [looseE, tv_bound, if_pos (by simpa using hn)]
theorem tv_L (h g n b : Nat) : weightL (keysOf (tv h g n b).nodes) (kidsN (tv h g n b).nodes) (tv h g n b).files = [(1, 1), (fileW n, 1)] := by kernel_rfl
theorem fileW_le {n : Nat} (hn : ¬ 8192 < n) : fileW n ≤ 17 := by unfold fileW; split <;> omega
theorem tv_small {h g n b : Nat} (hn : ¬ 8192 < n) : SmallSum (weightL (keysOf (tv h g n b).nodes) (kidsN (tv h g n b).nodes) (tv h g n b).files) := by
  rw [tv_L]
  have := fileW_le hn
  refine ⟨fun x hx => ?_, by simp [s1]; omega, by simp [s2]⟩
  simp only [List.mem_cons, List.not_mem_nil, or_false] at hx
  rcases hx with rfl | rfl <;> simp <;> omega
theorem tv_s1 (h g n b : Nat) : s1 (weightL (keysOf (tv h g n b).nodes) (kidsN (tv h g n b).nodes) (tv h g n b).files) = 1 + fileW n := by rw [tv_L]; simp [s1]
theorem tv_s2 (h g n b : Nat) : s2 (weightL (keysOf (tv h g n b).nodes) (kidsN (tv h g n b).nodes) (tv h g n b).files) = 2 := by rw [tv_L]; simp [s2]
theorem Sl.blk {w : World} {g B sz n : Nat} {t : TypeId} {cs : Array Value} {L : List Value} (h : Blk w g t cs) (hL : cs.toList = L) (hl : L.length = n * sz) (hg : g < B) : Sl w B sz (some ⟨g, 0, none⟩) n L :=
  ⟨hl, fun _ => ⟨g, 0, rfl, hg, fun i v hi => by rw [Nat.zero_add, h.cell i]; subst hL; simpa using hi⟩⟩
theorem num_same' (a : Nat) {x : Int} (ha : a < 4294967296) (h : x = (a : Int)) : (FloatKind.f64.format.order (N a) (floatOfInt .f64 x) == some .eq) = true := by subst h; exact N_eq a ha
theorem two_same : (FloatKind.f64.format.order (N 2) 4611686018427387904 == some .eq) = true := by decide +kernel
theorem fin {q : Nat} {x : Int} (hq : 1 + q < 4294967296) (hx : x = ((1 + q : Nat) : Int)) : Ending.returned (.bool ((FloatKind.f64.format.order (N (1 + q)) (floatOfInt .f64 x) == some .eq) && (FloatKind.f64.format.order (N 2) 4611686018427387904 == some .eq))) = .returned (.bool true) := by
  rw [num_same' _ hq hx, two_same]; rfl
set_option maxRecDepth 100000 in
set_option maxHeartbeats 4000000 in
theorem walk (n : Int) (w : World) (_ : (Lit.int .i64 n).wf = true) : Calls Try.prog 4 #[.int .i64 n] w fun e w' => e = .returned (.bool true) ∧ Below w.heap.size w w' := by
  by_cases h1 : n < 0
  · go_enter Try.func4, Try.ntmps4
    go_wp2_with (go_at_call 14; refine (alive_t _).mono ?_; rintro e w1 ⟨rfl, hb1⟩)
    go_ret
    exact ⟨rfl, hb1⟩
  · by_cases h2 : 9000 < n
    · go_enter Try.func4, Try.ntmps4
      go_wp2_with (go_at_call 14; refine (alive_t _).mono ?_; rintro e w1 ⟨rfl, hb1⟩)
      go_ret
      exact ⟨rfl, hb1⟩
    · obtain ⟨n, rfl⟩ := Int.eq_ofNat_of_zero_le (show 0 ≤ n by omega)
      have hn : n ≤ 9000 := by omega
      go_enter Try.func4, Try.ntmps4
      go_upto_region 4 with (go_at_call 14; refine (alive_t _).mono ?_; rintro e w1 ⟨rfl, hb1⟩)
      have hs1 := hb1.size
      go_upto_region 5 with (refine wpList_make_own rfl _ _ rfl Try.byteT rfl rfl (by omega) (by unfold maxLen; omega) (Nat.le_refl _) ?_; intro g w2 L ho2 hg2)
      have hs2 := hg2.size
      simp only [World.size_alloc] at hs2
      have n1 : Blk w2 w1.heap.size 29 #[.string ⟨#[102]⟩, .int .i64 0, .int .i64 0] := (Blk.new w1 _ _).grown hg2 (by simp)
      have n3 := (n1.alloc (.cells #[.int .i64 0, .slice (some ⟨g, 0, none⟩) n n] 39)).alloc (.cells #[.slice (some ⟨w1.heap.size, 0, none⟩) 1 1, .slice (some ⟨w2.heap.size, 0, none⟩) 1 1] 26)
      have f3 := (Blk.new w2 39 #[.int .i64 0, .slice (some ⟨g, 0, none⟩) n n]).alloc (.cells #[.slice (some ⟨w1.heap.size, 0, none⟩) 1 1, .slice (some ⟨w2.heap.size, 0, none⟩) 1 1] 26)
      have t3 := (Blk.new (w2.alloc (.cells #[.int .i64 0, .slice (some ⟨g, 0, none⟩) n n] 39)) 26 #[.slice (some ⟨w1.heap.size, 0, none⟩) 1 1, .slice (some ⟨w2.heap.size, 0, none⟩) 1 1])
      rw [World.size_alloc] at t3
      have c0 := t3.cell 0
      have c1 := t3.cell 1
      have HB : Below w.heap.size w ((w2.alloc (.cells #[.int .i64 0, .slice (some ⟨g, 0, none⟩) n n] 39)).alloc (.cells #[.slice (some ⟨w1.heap.size, 0, none⟩) 1 1, .slice (some ⟨w2.heap.size, 0, none⟩) 1 1] 26)) :=
        ((((hb1.alloc hs1 _).trans (below_grown hg2 (by simp; omega) (fun g e => by cases e))).alloc (by omega) _).alloc (by simp; omega) _)
      have hT : TreeAt ((w2.alloc (.cells #[.int .i64 0, .slice (some ⟨g, 0, none⟩) n n] 39)).alloc (.cells #[.slice (some ⟨w1.heap.size, 0, none⟩) 1 1, .slice (some ⟨w2.heap.size, 0, none⟩) 1 1] 26)) (tv w1.heap.size g n w2.heap.size) :=
        ⟨rfl, rfl, Sl.blk n3 rfl rfl (by simp; omega), Sl.blk f3 rfl rfl (by simp; omega), by show 1 ≤ _; decide, by show 1 ≤ _; decide⟩
      clear n1 n3 f3 t3
      have HT := Lib.hid hT; clear hT
      obtain ⟨h, hh⟩ : ∃ h, h = w1.heap.size := ⟨_, rfl⟩
      by_cases h8 : 8192 < n
      · have hi : (8192 : Int) < n := by omega
        have hl := tv_long (h := w1.heap.size) (g := g) (b := w2.heap.size) h8
        have Hl := Lib.hid hl; clear hl
        go_wp2_with (first | (go_at_call 17; refine (weight_bad (tv w1.heap.size g n w2.heap.size) _ HT.out (by rw [Hl.out]; decide)).mono ?_; rintro e w3 ⟨rfl, hb3⟩; rw [Hl.out]) | (go_at_call 18; refine (numT _ _).mono ?_; rintro e w4 ⟨rfl, rfl⟩))
        go_ret
        exact ⟨rfl, HB.trans (hb3.mono HB.size)⟩
      · have hi : ¬ (8192 : Int) < n := by omega
        have hl := tv_loose (h := w1.heap.size) (g := g) (b := w2.heap.size) h8
        have hS := tv_small (h := w1.heap.size) (g := g) (b := w2.heap.size) h8
        have e1 := tv_s1 w1.heap.size g n w2.heap.size
        have e2 := tv_s2 w1.heap.size g n w2.heap.size
        obtain ⟨q, hq⟩ : ∃ q, fileW n = q := ⟨_, rfl⟩
        rw [hq] at e1
        have hq17 : q ≤ 17 := by rw [← hq]; exact fileW_le h8
        have Hl := Lib.hid hl; clear hl
        have HS := Lib.hid hS; clear hS
        have E1 := Lib.hid e1; clear e1
        have E2 := Lib.hid e2; clear e2
        by_cases hr : n % 512 = 0
        · have hr0 := hr
          by_cases h9 : (8 : Int) < (n : Int) / 512
          · have hr2 : ((n : Int) % 512 != 0) = false := by simp; omega
            have hbq : (n : Int) / 512 + 1 + 1 = ((1 + q : Nat) : Int) := by rw [← hq]; unfold fileW; split <;> omega
            replace hbq := Lib.hid hbq
            replace hq := Lib.hid hq
            replace hr := Lib.hid hr
            clear h8
            go_wp2_with (first | (go_at_call 17; refine (weight_ok (tv w1.heap.size g n w2.heap.size) _ HT.out Hl.out HS.out).mono ?_; rintro e w3 ⟨rfl, hb3⟩; rw [E1.out, E2.out]) | (go_at_call 18; refine (numT _ _).mono ?_; rintro e w4 ⟨rfl, rfl⟩))
            go_ret
            exact ⟨fin (by omega) hbq.out, HB.trans (hb3.mono HB.size)⟩
          · have hr2 : ((n : Int) % 512 != 0) = false := by simp; omega
            have hbq : (n : Int) / 512 + 1 = ((1 + q : Nat) : Int) := by rw [← hq]; unfold fileW; split <;> omega
            replace hbq := Lib.hid hbq
            replace hq := Lib.hid hq
            replace hr := Lib.hid hr
            clear h8
            go_wp2_with (first | (go_at_call 17; refine (weight_ok (tv w1.heap.size g n w2.heap.size) _ HT.out Hl.out HS.out).mono ?_; rintro e w3 ⟨rfl, hb3⟩; rw [E1.out, E2.out]) | (go_at_call 18; refine (numT _ _).mono ?_; rintro e w4 ⟨rfl, rfl⟩))
            go_ret
            exact ⟨fin (by omega) hbq.out, HB.trans (hb3.mono HB.size)⟩
        · have hr0 := hr
          by_cases h9 : (8 : Int) < (n : Int) / 512 + 1
          · have hr2 : ((n : Int) % 512 != 0) = true := by simp; omega
            have hbq : (n : Int) / 512 + 1 + 1 + 1 = ((1 + q : Nat) : Int) := by rw [← hq]; unfold fileW; split <;> omega
            replace hbq := Lib.hid hbq
            replace hq := Lib.hid hq
            replace hr := Lib.hid hr
            clear h8
            go_wp2_with (first | (go_at_call 17; refine (weight_ok (tv w1.heap.size g n w2.heap.size) _ HT.out Hl.out HS.out).mono ?_; rintro e w3 ⟨rfl, hb3⟩; rw [E1.out, E2.out]) | (go_at_call 18; refine (numT _ _).mono ?_; rintro e w4 ⟨rfl, rfl⟩))
            go_ret
            exact ⟨fin (by omega) hbq.out, HB.trans (hb3.mono HB.size)⟩
          · have hr2 : ((n : Int) % 512 != 0) = true := by simp; omega
            have hbq : (n : Int) / 512 + 1 + 1 = ((1 + q : Nat) : Int) := by rw [← hq]; unfold fileW; split <;> omega
            replace hbq := Lib.hid hbq
            replace hq := Lib.hid hq
            replace hr := Lib.hid hr
            clear h8
            go_wp2_with (first | (go_at_call 17; refine (weight_ok (tv w1.heap.size g n w2.heap.size) _ HT.out Hl.out HS.out).mono ?_; rintro e w3 ⟨rfl, hb3⟩; rw [E1.out, E2.out]) | (go_at_call 18; refine (numT _ _).mono ?_; rintro e w4 ⟨rfl, rfl⟩))
            go_ret
            exact ⟨fin (by omega) hbq.out, HB.trans (hb3.mono HB.size)⟩


set_option maxRecDepth 100000 in
theorem lifted (os : Os) (started : os.Started) (H : Type) (enc : TypeId × Value → H) :
    ReturnsInHanded {} Try.checked os 4 .any (Rows.treeSizesSpec.pre6 enc Try.prog Try.f4 Rows.treeSizesRow.domain false) (Rows.treeSizesSpec.post enc Try.prog Try.f4 false true false false) := by
  refine returnsInHanded_of_change (C := Try.checked) own started (by kernel_rfl) Try.func4
    (ChangeSpec.witness6 (enc := enc) (C := Try.checked) false ⟨#[], #[.int .i64 0], []⟩ 8 (by kernel_rfl) (by kernel_rfl) (by kernel_rfl) (by kernel_rfl)) ?_
  intro W base args ds gs before hval0 hW hcnd _
  have hval : ∀ (j : Nat) t v, Try.f4.params[j]? = some t → args[j]? = some v → Value.okWide Try.prog W .any base t v := hval0
  have hW' := hW
  obtain ⟨p, q, hA0, hV, rfl, hfz, hnd⟩ := hW
  have hA : DataW.TrodAll enc Try.prog W 0 (fun _ => true) true Try.f4.params.toList args.toList ds p := hA0
  rw [Try.params4] at hA hval
  obtain ⟨v0, vs0, d0, ds0, p0, q0, hargs, rfl, rfl, h0, r0⟩ := trodAll_cons hA
  obtain ⟨rfl, rfl, rfl⟩ := trodAll_nil r0
  obtain rfl : args = #[v0] := by cases args; simp_all
  obtain ⟨rfl, rfl⟩ := trodVars_none hV
  obtain ⟨a0, rfl, rfl, rfl, w0⟩ := open_int Try.underlying3 (hval 0 3 v0 rfl rfl) h0
  clear hA0 hval0
  refine (walk a0 W w0).mono fun e W' ⟨he, bel⟩ => ?_
  subst he
  exact ⟨_, rfl, _, _, _, [], _, [], hW', trodAll_mk1 (shut_bool Try.underlying4 _), (trodAll_cons_mk (shut_int Try.underlying3 w0) trodAll_mk0), rfl, bel.frame _, fun h => by cases h⟩

theorem over : Rows.treeSizesRow.holds Try.pinned (OpenSpec.ofChange Rows.treeSizesSpec) :=
  OpenClaim.holds_of_wide 4 Try.f4 rfl rfl rfl rfl rfl rfl rfl ⟨rfl, rfl, rfl, rfl, rfl⟩ rfl rfl rfl rfl rfl (by kernel_rfl) Try.func4 (by kernel_rfl)
    (of_decide_eq_true (by kernel_rfl)) (by unfold Func.isWrapper; first | (rw [if_pos (by decide +kernel)]; kernel_rfl) | (rw [if_neg (by decide +kernel)]; exact ⟨rfl, rfl⟩))
    (fun os started H enc _ => lifted os started H enc)

theorem proved : Rows.TreeSizesSaid := over
#print axioms proved
end Go.Proofs.Ytdjlchbgdehccaa.treeSizesDone
