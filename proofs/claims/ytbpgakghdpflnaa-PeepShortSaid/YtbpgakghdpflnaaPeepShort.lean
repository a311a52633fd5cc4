/- PeepShort. -/
import Derived.Test.YtbpgakghdpflnaaHeld
namespace Go.Proofs.Ytbpgakghdpflnaa.peepShortDone
open Go.ChangeShapes Go.WideShapes Go.ChangeAt Go.RowKit Go.Deep

theorem and7 {s : Int} (h0 : 0 ≤ s) (h1 : s ≤ 31) (h : (bits .and .i64 s 7 != 0) = false) : (bits .and .i64 s 1 == 0) = true ∧ (bits .and .i64 s 2 == 0) = true ∧ (bits .and .i64 s 4 == 0) = true := by
  rcases (by omega : s = 0 ∨ s = 1 ∨ s = 2 ∨ s = 3 ∨ s = 4 ∨ s = 5 ∨ s = 6 ∨ s = 7 ∨ s = 8 ∨ s = 9 ∨ s = 10 ∨ s = 11 ∨ s = 12 ∨ s = 13 ∨ s = 14 ∨ s = 15 ∨ s = 16 ∨ s = 17 ∨ s = 18 ∨ s = 19 ∨ s = 20 ∨ s = 21 ∨ s = 22 ∨ s = 23 ∨ s = 24 ∨ s = 25 ∨ s = 26 ∨ s = 27 ∨ s = 28 ∨ s = 29 ∨ s = 30 ∨ s = 31) with rfl | rfl | rfl | rfl | rfl | rfl | rfl | rfl | rfl | rfl | rfl | rfl | rfl | rfl | rfl | rfl | rfl | rfl | rfl | rfl | rfl | rfl | rfl | rfl | rfl | rfl | rfl | rfl | rfl | rfl | rfl | rfl <;> revert h <;> decide
theorem countP_snoc {l : List Ins} {k : Nat} {x : Ins} (h : l[k]? = some x) : (l.take (k + 1)).countP is9 = (l.take k).countP is9 + (if x.op = 9 then 1 else 0) := by
  rw [take_snoc h, List.countP_append]
  by_cases h9 : x.op = 9 <;> simp [is9, h9]
set_option maxHeartbeats 4000000 in
theorem walk (xs : List Ins) (A : Option Addr) (n c : Nat) (set : Int) (w : World) (hA : Sl w w.heap.size 5 A n (insL xs)) (hn : xs.length = n) (hcap : n ≤ maxLen) (_ : (Lit.int .i64 set).wf = true) :
    Calls Try.prog 8 #[.slice A n c, .int .i64 set] w fun e w' => e = .returned (.bool true) ∧ Below w.heap.size w w' := by
  have H : Held w w [(A, n, xs)] := Held.add ⟨fun q hq => (by cases hq), Below.refl _ _⟩ hn hA
  replace H := Lib.hid H
  clear hA
  by_cases hl : longB xs = true
  · clear hn
    go_enter Try.func8, Try.ntmps8
    go_wp2_with (first | (go_at_call 10; refine (held_alive H.out).mono ?_; rintro e w1 ⟨rfl, h1⟩; replace H := Lib.hid h1; clear h1) | (go_at_call 11; refine (held_long H.out 0 rfl hcap).mono ?_; rintro e w2 ⟨rfl, h1⟩; rw [hl]; replace H := Lib.hid h1; clear h1))
    go_ret
    exact ⟨rfl, H.out.2⟩
  · replace hl : longB xs = false := by simpa using hl
    have h4 : n ≤ 400 := by have := longB_le hl; omega
    by_cases h0 : set < 0
    · clear hn
      go_enter Try.func8, Try.ntmps8
      go_wp2_with (first | (go_at_call 10; refine (held_alive H.out).mono ?_; rintro e w1 ⟨rfl, h1⟩; replace H := Lib.hid h1; clear h1) | (go_at_call 11; refine (held_long H.out 0 rfl hcap).mono ?_; rintro e w2 ⟨rfl, h1⟩; rw [hl]; replace H := Lib.hid h1; clear h1))
      go_ret
      exact ⟨rfl, H.out.2⟩
    by_cases h31 : 31 < set
    · clear hn
      go_enter Try.func8, Try.ntmps8
      go_wp2_with (first | (go_at_call 10; refine (held_alive H.out).mono ?_; rintro e w1 ⟨rfl, h1⟩; replace H := Lib.hid h1; clear h1) | (go_at_call 11; refine (held_long H.out 0 rfl hcap).mono ?_; rintro e w2 ⟨rfl, h1⟩; rw [hl]; replace H := Lib.hid h1; clear h1))
      go_ret
      exact ⟨rfl, H.out.2⟩
    by_cases hf : few set = true
    · have b8 : (bits BinOp.and IntKind.i64 set 8 != 0) = true := hf
      clear hn hf
      go_enter Try.func8, Try.ntmps8
      go_wp2_with (first | (go_at_call 10; refine (held_alive H.out).mono ?_; rintro e w1 ⟨rfl, h1⟩; replace H := Lib.hid h1; clear h1) | (go_at_call 11; refine (held_long H.out 0 rfl hcap).mono ?_; rintro e w2 ⟨rfl, h1⟩; rw [hl]; replace H := Lib.hid h1; clear h1))
      go_ret
      exact ⟨rfl, H.out.2⟩
    replace hf : few set = false := by simpa using hf
    have b8 : (bits BinOp.and IntKind.i64 set 8 != 0) = false := hf
    obtain ⟨L, hL⟩ : ∃ L, peepF set xs = L := ⟨_, rfl⟩
    have hp := peep_eq set xs
    rw [hf, hL] at hp
    simp only [Bool.false_eq_true, if_false] at hp
    obtain ⟨hs1, hs2, hs3⟩ := look_short set xs
    rw [← hp] at hs1 hs2 hs3
    have h7 : L ≠ xs → (bits BinOp.and IntKind.i64 set 7 != 0) = true := fun h => by
      cases hb : (bits BinOp.and IntKind.i64 set 7 != 0) with
      | true => rfl
      | false =>
        obtain ⟨c1, c2, c4⟩ := and7 (by omega) (by omega) hb
        exact absurd (hp.trans (by unfold lookC; exact look_zero (fun x y => fuse_zero c1 c2 c4) _ _ _)) h
    have hlen : L.length ≤ n := by omega
    have hlen' : L.length ≤ maxLen := by omega
    have HL := Lib.hid hL; clear hL
    have Hp := Lib.hid hp; clear hp
    have Hs2 := Lib.hid hs2; clear hs2
    have Hs3 := Lib.hid hs3; clear hs3
    have H7 := Lib.hid h7; clear h7
    have Hn := Lib.hid hn
    have Hf := Lib.hid hf; clear hf
    by_cases heq : L.length = n
    · have hE := Hs2.out (heq.trans hn.symm)
      have HE := Lib.hid hE
      clear hE hn hs1
      subst heq
      clear hlen
      go_enter Try.func8, Try.ntmps8
      go_upto_region 5 with (first | (first | (go_at_call 10; refine (held_alive H.out).mono ?_; rintro e w1 ⟨rfl, h1⟩; replace H := Lib.hid h1; clear h1) | (go_at_call 11; refine (held_long H.out 0 rfl hcap).mono ?_; rintro e w2 ⟨rfl, h1⟩; rw [hl]; replace H := Lib.hid h1; clear h1)) | (go_at_call 12; refine (held_run H.out 0 HL.out rfl (by omega) (by omega) (by omega)).mono ?_; rintro e w3 ⟨A1, c1, rfl, h1⟩; replace H := Lib.hid h1; clear h1))
      go_wp2_with (first | (go_at_call 15; refine (held_num H.out _).mono ?_; rintro e w6 ⟨rfl, h1⟩; replace H := Lib.hid h1; clear h1) | (go_at_call 13; refine (held_same H.out 0 1 rfl rfl hlen').mono ?_; rintro e w6 ⟨rfl, h1⟩; replace H := Lib.hid h1; clear h1))
      go_ret
      exact ⟨by simp [HE.out], H.out.2⟩
    · have hne : L ≠ xs := fun e => heq (by rw [e]; exact hn)
      have b7 := H7.out hne
      have hne' : ¬ (L.length : Int) = n := by omega
      clear hn hs1 hne
      go_enter Try.func8, Try.ntmps8
      go_upto_region 5 with (first | (first | (go_at_call 10; refine (held_alive H.out).mono ?_; rintro e w1 ⟨rfl, h1⟩; replace H := Lib.hid h1; clear h1) | (go_at_call 11; refine (held_long H.out 0 rfl hcap).mono ?_; rintro e w2 ⟨rfl, h1⟩; rw [hl]; replace H := Lib.hid h1; clear h1)) | (go_at_call 12; refine (held_run H.out 0 HL.out rfl (by omega) (by omega) (by omega)).mono ?_; rintro e w3 ⟨A1, c1, rfl, h1⟩; replace H := Lib.hid h1; clear h1))
      go_upto_block 0 with (go_at_call 15; refine (held_num H.out _).mono ?_; rintro e w6 ⟨rfl, h1⟩; replace H := Lib.hid h1; clear h1)
      go_wp2
      obtain ⟨cnt, hcnt⟩ : ∃ cnt, cnt = xs.countP is9 := ⟨_, rfl⟩
      have hcx : cnt ≤ n := by rw [hcnt, ← Hn.out]; exact List.countP_le_length
      have Hcnt := Lib.hid hcnt; clear hcnt
      go_loopw [8, 9] (fun v i wr => ∃ k q : Nat, k ≤ n ∧ i = .int .i64 k ∧ v = .int .i64 q ∧ q ≤ k ∧ q = (xs.take k).countP is9 ∧ Held w wr [(A1, L.length, L), (A, n, xs)]) (fun _ i _ => n - (intOf i).toNat)
      case atStart => exact ⟨0, 0, Nat.zero_le _, rfl, rfl, Nat.le_refl _, rfl, H.out⟩
      case round =>
        obtain ⟨k, q, hk, rfl, rfl, hqk, hq, hH⟩ := hrel
        have Hq := Lib.hid hq; clear hq
        by_cases hlt : k < n
        · have hki : (k : Int) < n := by omega
          obtain ⟨b, o, x, rfl, hbl, hx, x0, x1, x2, x3, x4⟩ := (hH.at 1 rfl).ins (hH.len 1 rfl) hlt
          have HH := Lib.hid hH; clear hH
          have hnx := countP_snoc hx
          have Hnx := Lib.hid hnx; clear hnx hx
          by_cases h9 : x.op = 9
          · have H9 := Lib.hid h9; clear h9
            have b9 : (x.op == 9) = true := by simp [H9.out]
            go_wp2
            go_roundw
            case rel => exact ⟨k + 1, q + 1, by omega, by go_num, by go_num, by omega, by rw [Hnx.out, if_pos H9.out, ← Hq.out], HH.out⟩
            case measure => simp [intOf]; omega
          · have H9 := Lib.hid h9; clear h9
            have b9 : (x.op == 9) = false := by simp [H9.out]
            go_wp2
            go_roundw
            case rel => exact ⟨k + 1, q, by omega, by go_num, rfl, by omega, by rw [Hnx.out, if_neg H9.out, ← Hq.out]; rfl, HH.out⟩
            case measure => simp [intOf]; omega
        · obtain rfl : k = n := by omega
          have hqe : q = cnt := by rw [Hq.out, List.take_of_length_le (by rw [Hn.out]; exact Nat.le_refl _), Hcnt.out]
          subst hqe
          have HH := Lib.hid hH; clear hH
          go_wp2
          go_loopw [8, 10] (fun v i wr => ∃ (j : Nat) (r : Int), j ≤ L.length ∧ i = .int .i64 j ∧ v = .int .i64 r ∧ -401 ≤ r ∧ r ≤ 401 ∧ r = (q : Int) - ((L.take j).countP is9 : Nat) ∧ Held w wr [(A1, L.length, L), (A, k, xs)]) (fun _ i _ => L.length - (intOf i).toNat)
          case atStart => exact ⟨0, q, Nat.zero_le _, rfl, rfl, by omega, by omega, by simp, HH.out⟩
          case round =>
            obtain ⟨j, r, hj, rfl, rfl, hr0, hr1, hr, hH2⟩ := hrel
            have Hr := Lib.hid hr; clear hr
            by_cases hlt2 : j < L.length
            · have hki2 : (j : Int) < L.length := by omega
              obtain ⟨b, o, x, hA1, hbl, hx, x0, x1, x2, x3, x4⟩ := (hH2.at 0 rfl).ins (hH2.len 0 rfl) hlt2
              simp only at hA1
              subst hA1
              have HH2 := Lib.hid hH2; clear hH2
              have hnx : (L.take (j + 1)).countP is9 = (L.take j).countP is9 + (if x.op = 9 then 1 else 0) := countP_snoc hx
              have hjb : ((L.take (j + 1)).countP is9 : Nat) ≤ j + 1 := Nat.le_trans List.countP_le_length (List.length_take_le _ _)
              have Hnx := Lib.hid hnx; clear hnx hx
              by_cases h9 : x.op = 9
              · have H9 := Lib.hid h9; clear h9
                have b9 : (x.op == 9) = true := by simp [H9.out]
                have hr' : r - 1 = (q : Int) - ((L.take (j + 1)).countP is9 : Nat) := by rw [Hnx.out, if_pos H9.out, Hr.out]; omega
                have hr2 : -401 ≤ r - 1 := by omega
                have Hr' := Lib.hid hr'; clear hr'
                go_wp2
                go_roundw
                case rel => exact ⟨j + 1, r - 1, by omega, by go_num, by go_num, by omega, by omega, Hr'.out, HH2.out⟩
                case measure => simp [intOf]; omega
              · have H9 := Lib.hid h9; clear h9
                have b9 : (x.op == 9) = false := by simp [H9.out]
                go_wp2
                go_roundw
                case rel => exact ⟨j + 1, r, by omega, by go_num, rfl, by omega, by omega, by rw [Hnx.out, if_neg H9.out, Hr.out]; omega, HH2.out⟩
                case measure => simp [intOf]; omega
            · obtain rfl : j = L.length := by omega
              have hr0' : r = 0 := by rw [Hr.out, List.take_length, Hs3.out, ← Hcnt.out]; omega
              subst hr0'
              have HH2 := Lib.hid hH2; clear hH2
              go_wp2
              go_ret
              exact ⟨rfl, HH2.out.2⟩

set_option maxRecDepth 100000 in
theorem lifted (os : Os) (started : os.Started) (H : Type) (enc : TypeId × Value → H) :
    ReturnsInHanded {} Try.checked os 8 .any (Rows.peepShortSpec.pre6 enc Try.prog Try.f8 Rows.peepShortRow.domain false) (Rows.peepShortSpec.post enc Try.prog Try.f8 false true false false) := by
  refine returnsInHanded_of_change (C := Try.checked) own started (by kernel_rfl) Try.func8
    (ChangeSpec.witness6 (enc := enc) (C := Try.checked) false ⟨#[], #[.slice none 0 0, .int .i64 0], []⟩ 8 (by kernel_rfl) (by kernel_rfl) (by kernel_rfl) (by kernel_rfl)) ?_
  intro W base args ds gs before hval0 hW hcnd _
  have hval : ∀ (j : Nat) t v, Try.f8.params[j]? = some t → args[j]? = some v → Value.okWide Try.prog W .any base t v := hval0
  have hW' := hW
  obtain ⟨p, q, hA0, hV, rfl, hfz, hnd⟩ := hW
  have hA : DataW.TrodAll enc Try.prog W 0 (fun _ => true) true Try.f8.params.toList args.toList ds p := hA0
  rw [Try.params8] at hA hval
  obtain ⟨v0, vs0, d0, ds0, p0, q0, hargs, rfl, rfl, h0, r0⟩ := trodAll_cons hA
  obtain ⟨v1, vs1, d1, ds1, p1, q1, rfl, rfl, rfl, h1, r1⟩ := trodAll_cons r0
  obtain ⟨rfl, rfl, rfl⟩ := trodAll_nil r1
  obtain rfl : args = #[v0, v1] := by cases args; simp_all
  obtain ⟨rfl, rfl⟩ := trodVars_none hV
  obtain ⟨a0, len0, cap0, rfl⟩ := okWide_slice Try.underlying22 (hval 0 22 v0 rfl rfl)
  have k0 := h0
  have lt0 : ∀ x ∈ p0, x.block < W.heap.size := by obtain ⟨m, hm⟩ := k0; exact DataW.trod_lt m _ _ _ hm
  obtain ⟨xs0, hlen0, hS0, hcap0⟩ : ∃ xs : List Ins, xs.length = len0 ∧ Sl W W.heap.size 5 a0 len0 (insL xs) ∧ len0 ≤ maxLen := by
    obtain ⟨fuel, hf⟩ := h0
    exact open_ins hf lt0
  obtain ⟨a1, rfl, rfl, rfl, w1⟩ := open_int Try.underlying3 (hval 1 3 v1 rfl rfl) h1
  clear hA0 hval0
  refine (walk xs0 a0 len0 cap0 a1 W hS0 hlen0 hcap0 w1).mono fun e W' ⟨he, bel⟩ => ?_
  subst he
  exact ⟨_, rfl, _, _, _, [], _, [], hW', trodAll_mk1 (shut_bool Try.underlying4 _), (trodAll_cons_mk (Below.trod laidOut (by kernel_rfl) (of_decide_eq_true (by kernel_rfl)) k0 bel lt0) (trodAll_cons_mk (shut_int Try.underlying3 w1) trodAll_mk0)), rfl, bel.frame _, fun h => by cases h⟩

theorem over : Rows.peepShortRow.holds Try.pinned (OpenSpec.ofChange Rows.peepShortSpec) :=
  OpenClaim.holds_of_wide 8 Try.f8 rfl rfl rfl rfl rfl rfl rfl ⟨rfl, rfl, rfl, rfl, rfl⟩ rfl rfl rfl rfl rfl (by kernel_rfl) Try.func8 (by kernel_rfl)
    (of_decide_eq_true (by kernel_rfl)) (by unfold Func.isWrapper; first | (rw [if_pos (by decide +kernel)]; kernel_rfl) | (rw [if_neg (by decide +kernel)]; exact ⟨rfl, rfl⟩))
    (fun os started H enc _ => lifted os started H enc)

theorem proved : Rows.PeepShortSaid := over
#print axioms proved
end Go.Proofs.Ytbpgakghdpflnaa.peepShortDone
