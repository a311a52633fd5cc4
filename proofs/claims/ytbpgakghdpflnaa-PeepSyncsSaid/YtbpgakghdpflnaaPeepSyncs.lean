/- PeepSyncs. -/
import Derived.Test.YtbpgakghdpflnaaAlive
import Derived.Test.YtbpgakghdpflnaaOpen
namespace Go.Proofs.Ytbpgakghdpflnaa.peepSyncsDone
open Go.ChangeShapes Go.WideShapes Go.ChangeAt Go.RowKit Go.Deep

theorem fuse_zero {x y : Ins} {set : Int} (h1 : (bits .and .i64 set 1 == 0) = true) (h2 : (bits .and .i64 set 2 == 0) = true) (h4 : (bits .and .i64 set 4 == 0) = true) : fuse x y set = none := by
  simp [fuse, rulesL, fusedF, h1, h2, h4]
theorem look_zero {set : Int} (h : ∀ x y, fuse x y set = none) : ∀ (f : Nat) (l : List Ins) (p : Nat), look set f l p = l
  | 0, _, _ => rfl
  | f + 1, l, p => by
    simp only [look]
    split
    · simp only [h]; exact look_zero h f _ _
    · rfl
theorem few8 : few 8 = true := by decide
theorem fuse8 (x y : Ins) : fuse x y 8 = none := fuse_zero (by decide) (by decide) (by decide)
theorem peep8 (xs : List Ins) : peepF 8 xs = if filt 8 xs = [] then [] else filt 8 xs ++ [syncIns] := by
  unfold peepF
  simp only [look_zero fuse8, withSync, few8, true_and]
  by_cases h : filt 8 xs = []
  · simp [h, lastSync]
  · simp only [h, not_false_eq_true, if_true, if_false, ne_eq]
    cases hf : filt 8 xs with
    | nil => exact absurd hf h
    | cons a t => cases t <;> rfl

set_option maxHeartbeats 4000000 in
theorem walk (xs : List Ins) (A : Option Addr) (n c : Nat) (w : World) (hA : Sl w w.heap.size 5 A n (insL xs)) (hn : xs.length = n) (hcap : n ≤ maxLen) :
    Calls Try.prog 7 #[.slice A n c] w fun e w' => e = .returned (.bool true) ∧ Below w.heap.size w w' := by
  have Hn := Lib.hid hn
  have HA := Lib.hid hA; clear hA
  by_cases hl : longB xs = true
  · go_enter Try.func7, Try.ntmps7
    go_wp2_with (first | (go_at_call 10; refine (alive_any _).mono ?_; rintro e w1 ⟨rfl, hb1⟩) | (go_at_call 11; refine (long_any xs _ _ _ _ (HA.out.keep hb1.size hb1.block) Hn.out hcap).mono ?_; rintro e w2 ⟨rfl, hb2⟩; rw [hl]))
    go_ret
    exact ⟨rfl, hb1.trans (hb2.mono hb1.size)⟩
  · replace hl : longB xs = false := by simpa using hl
    have h4 : n ≤ 400 := by have := longB_le hl; omega
    clear hn
    go_enter Try.func7, Try.ntmps7
    go_wp2_with (first | (go_at_call 10; refine (alive_any _).mono ?_; rintro e w1 ⟨rfl, hb1⟩; have hs1 := hb1.size) | (go_at_call 11; refine (long_any xs _ _ _ _ (HA.out.keep hb1.size hb1.block) Hn.out hcap).mono ?_; rintro e w2 ⟨rfl, hb2⟩; rw [hl]; have hs2 := hb2.size) | (go_at_call 12; refine (run_sl xs 8 _ _ _ _ _ rfl ((HA.out.keep hb1.size hb1.block).keep hb2.size hb2.block) Hn.out (by omega) (by omega) (by omega)).mono ?_; rintro e w3 ⟨A1, c1, rfl, ho, hb3⟩; have hs3 := hb3.size))
    have Ho := Lib.hid (Sl.of_own ho)
    have hP := peep8 xs
    obtain ⟨L, hL⟩ : ∃ L, peepF 8 xs = L := ⟨_, rfl⟩
    rw [hL] at Ho hP
    rw [hL]
    have HP := Lib.hid hP; clear hP hL ho
    have HA3 := Lib.hid (((HA.out.keep hb1.size hb1.block).keep hb2.size hb2.block).keep hb3.size hb3.block)
    have hnum : L.length ≤ maxLen := by
      have := filt_le 8 xs
      have h2 := Hn.out
      rw [HP.out]; split
      · simp
      · simp; unfold maxLen; omega
    go_loopw [6, 7] (fun v i wr => ∃ k : Nat, k ≤ n ∧ i = .int .i64 k ∧ FiltAt xs 8 w3 wr k v) (fun _ i _ => n - (intOf i).toNat)
    case atStart => exact ⟨0, Nat.zero_le _, rfl, none, 0, 0, rfl, rfl, World.ownsRow_nil _ _ _ _, Below.refl _ _⟩
    case round =>
      obtain ⟨k, hk, rfl, hF⟩ := hrel
      by_cases hlt : k < n
      · have hki : (k : Int) < n := by omega
        have hbw := hF.choose_spec.choose_spec.choose_spec.2.2.2
        obtain ⟨b, o, x, rfl, hbl, hx, x0, x1, x2, x3, x4⟩ := (HA3.out.keep hbw.size hbw.block).ins Hn.out hlt
        obtain ⟨A', m, c', rfl, hm, ho, hbw'⟩ := hF
        have hmle : m ≤ 400 := by have := filt_le 8 (xs.take k); have := List.length_take_le k xs; omega
        have Hx := Lib.hid hx; clear hx hbw
        have Hm := Lib.hid hm; clear hm
        have hws := hbw'.size
        by_cases h9 : x.op = 9
        · have hks : keepSync 8 x = false := by simp [keepSync, h9, few8]
          have H9 := Lib.hid h9; clear h9
          have b9 : (x.op != 9) = false := by simp [H9.out]
          have Hks := Lib.hid hks; clear hks
          go_wp2
          go_roundw
          case rel => exact ⟨k + 1, by omega, by go_num, FiltAt.skip ⟨A', m, c', rfl, Hm.out, ho, hbw'⟩ Hx.out Hks.out (Below.refl _ _)⟩
          case measure => simp [intOf]; omega
        · have b9 : (x.op != 9) = true := by simp [h9]
          have H9 := Lib.hid h9; clear h9
          go_wp2_with (at_builtin; refine wpList_append_one rfl _ _ _ rfl Try.insT rfl ho _ rfl (by simp) rfl (Ins.cells_one x) (by unfold maxLen; omega) (by omega) hws ?_; intro g1 c1 w1 ho1 hg1 hat1)
          go_roundw
          case rel => exact ⟨k + 1, by omega, by go_num, FiltAt.push Hx.out (by simp [keepSync, H9.out]) Hm.out ho1 (hbw'.trans (below_grown hg1 hws (own_blk ho)))⟩
          case measure => simp [intOf]; omega
      · obtain rfl : k = n := by omega
        obtain ⟨A', m, c', rfl, hm, ho, hbw'⟩ := hF
        rw [List.take_of_length_le (by rw [Hn.out]; exact Nat.le_refl _)] at hm ho
        have hmle : m ≤ 400 := by have := filt_le 8 xs; have := Hn.out; omega
        have hws := hbw'.size
        have Hm := Lib.hid hm; clear hm
        have hb0 := ((hb1.trans (hb2.mono hb1.size)).trans (hb3.mono (Nat.le_trans hb1.size hb2.size))).trans (hbw'.mono (by omega))
        have Hb0 := Lib.hid hb0; clear hb0
        by_cases h0 : 0 < m
        · have h0' : (0 : Int) < m := by omega
          have hne : filt 8 xs ≠ [] := by intro h; have := Hm.out; rw [h] at this; simp at this; omega
          have hT : L = filt 8 xs ++ [syncIns] := by rw [HP.out, if_neg hne]
          have HT := Lib.hid hT; clear hT hne
          go_wp2_with (first | (at_builtin; refine wpList_append_one rfl _ _ _ rfl Try.insT rfl ho _ rfl (by simp) rfl (Ins.cells_one syncIns) (by unfold maxLen; omega) (by omega) hws ?_; intro g4 c4 w4 ho4 hg4 hat4; have hs4 := hg4.size; have hB4 := below_grown hg4 hws (own_blk ho)) | (go_at_call 15; refine (num_any _ _).mono ?_; rintro e w5 ⟨rfl, hb5⟩; have hs5 := hb5.size; have hSL := Lib.hid (((Ho.out.keep (Nat.le_refl _) hbw'.block).keep (Nat.le_refl _) hB4.block).keep (show w3.heap.size ≤ w5.heap.size by omega) fun k hk => hb5.block k (by omega)); have hSW := Lib.hid ((show Sl w4 w4.heap.size 5 (some ⟨g4, 0, none⟩) (m + 1) (insL (filt 8 xs ++ [syncIns])) by rw [insL_snoc]; exact Sl.of_own ho4).keep hs5 hb5.block)) | (go_at_call 13; refine (same_any L (filt 8 xs ++ [syncIns]) _ _ _ _ _ _ _ hSL.out rfl hSW.out (by simp [Hm.out]) hnum).mono ?_; rintro e w6 ⟨rfl, hb6⟩))
          go_ret
          refine ⟨by simp [HT.out], ?_⟩
          exact ((Hb0.out.trans (hB4.mono (by omega))).trans (hb5.mono (by omega))).trans (hb6.mono (by omega))
        · obtain rfl : m = 0 := by omega
          have hnil : filt 8 xs = [] := List.eq_nil_of_length_eq_zero Hm.out.symm
          have hT : L = [] := by rw [HP.out, if_pos hnil]
          have HT := Lib.hid hT; clear hT hnil
          go_wp2_with (first | (go_at_call 15; refine (num_any _ _).mono ?_; rintro e w5 ⟨rfl, hb5⟩; have hs5 := hb5.size; have hSL := Lib.hid ((Ho.out.keep (Nat.le_refl _) hbw'.block).keep (show w3.heap.size ≤ w5.heap.size by omega) fun k hk => hb5.block k (by omega))) | (go_at_call 13; refine (same_any L [] _ _ _ _ _ _ _ hSL.out rfl (Sl.nil _ _ _ _) rfl hnum).mono ?_; rintro e w6 ⟨rfl, hb6⟩))
          go_ret
          refine ⟨by simp [HT.out], ?_⟩
          exact (Hb0.out.trans (hb5.mono (by omega))).trans (hb6.mono (by omega))

set_option maxRecDepth 100000 in
theorem lifted (os : Os) (started : os.Started) (H : Type) (enc : TypeId × Value → H) :
    ReturnsInHanded {} Try.checked os 7 .any (Rows.peepSyncsSpec.pre6 enc Try.prog Try.f7 Rows.peepSyncsRow.domain false) (Rows.peepSyncsSpec.post enc Try.prog Try.f7 false true false false) := by
  refine returnsInHanded_of_change (C := Try.checked) own started (by kernel_rfl) Try.func7
    (ChangeSpec.witness6 (enc := enc) (C := Try.checked) false ⟨#[], #[.slice none 0 0], []⟩ 8 (by kernel_rfl) (by kernel_rfl) (by kernel_rfl) (by kernel_rfl)) ?_
  intro W base args ds gs before hval0 hW hcnd _
  have hval : ∀ (j : Nat) t v, Try.f7.params[j]? = some t → args[j]? = some v → Value.okWide Try.prog W .any base t v := hval0
  have hW' := hW
  obtain ⟨p, q, hA0, hV, rfl, hfz, hnd⟩ := hW
  have hA : DataW.TrodAll enc Try.prog W 0 (fun _ => true) true Try.f7.params.toList args.toList ds p := hA0
  rw [Try.params7] at hA hval
  obtain ⟨v0, vs0, d0, ds0, p0, q0, hargs, rfl, rfl, h0, r0⟩ := trodAll_cons hA
  obtain ⟨rfl, rfl, rfl⟩ := trodAll_nil r0
  obtain rfl : args = #[v0] := by cases args; simp_all
  obtain ⟨rfl, rfl⟩ := trodVars_none hV
  obtain ⟨a0, len0, cap0, rfl⟩ := okWide_slice Try.underlying22 (hval 0 22 v0 rfl rfl)
  have k0 := h0
  have lt0 : ∀ x ∈ p0, x.block < W.heap.size := by obtain ⟨m, hm⟩ := k0; exact DataW.trod_lt m _ _ _ hm
  obtain ⟨xs, hlen, hS, hcap⟩ : ∃ xs : List Ins, xs.length = len0 ∧ Sl W W.heap.size 5 a0 len0 (insL xs) ∧ len0 ≤ maxLen := by
    obtain ⟨fuel, hf⟩ := h0
    exact open_ins hf lt0
  clear hA0 hval0
  refine (walk xs a0 len0 cap0 W hS hlen hcap).mono fun e W' ⟨he, bel⟩ => ?_
  subst he
  exact ⟨_, rfl, _, _, _, [], _, [], hW', trodAll_mk1 (shut_bool Try.underlying4 _), (trodAll_cons_mk (Below.trod laidOut (by kernel_rfl) (of_decide_eq_true (by kernel_rfl)) k0 bel lt0) trodAll_mk0), rfl, bel.frame _, fun h => by cases h⟩

theorem over : Rows.peepSyncsRow.holds Try.pinned (OpenSpec.ofChange Rows.peepSyncsSpec) :=
  OpenClaim.holds_of_wide 7 Try.f7 rfl rfl rfl rfl rfl rfl rfl ⟨rfl, rfl, rfl, rfl, rfl⟩ rfl rfl rfl rfl rfl (by kernel_rfl) Try.func7 (by kernel_rfl)
    (of_decide_eq_true (by kernel_rfl)) (by unfold Func.isWrapper; first | (rw [if_pos (by decide +kernel)]; kernel_rfl) | (rw [if_neg (by decide +kernel)]; exact ⟨rfl, rfl⟩))
    (fun os started H enc _ => lifted os started H enc)

theorem proved : Rows.PeepSyncsSaid := over
#print axioms proved


end Go.Proofs.Ytbpgakghdpflnaa.peepSyncsDone
