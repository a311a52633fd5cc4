/- PeepTwice. -/
import Derived.Test.YtbpgakghdpflnaaHeld
namespace Go.Proofs.Ytbpgakghdpflnaa.peepTwiceDone
open Go.ChangeShapes Go.WideShapes Go.ChangeAt Go.RowKit Go.Deep

set_option maxHeartbeats 4000000 in
theorem walk (xs : List Ins) (A : Option Addr) (n c : Nat) (set : Int) (w : World) (hA : Sl w w.heap.size 5 A n (insL xs)) (hn : xs.length = n) (hcap : n ≤ maxLen) (_ : (Lit.int .i64 set).wf = true) :
    Calls Try.prog 4 #[.slice A n c, .int .i64 set] w fun e w' => e = .returned (.bool true) ∧ Below w.heap.size w w' := by
  have H : Held w w [(A, n, xs)] := Held.add ⟨fun q hq => (by cases hq), Below.refl _ _⟩ hn hA
  replace H := Lib.hid H
  clear hA
  by_cases hl : longB xs = true
  · clear hn
    go_enter Try.func4, Try.ntmps4
    go_wp2_with (first | (go_at_call 10; refine (held_alive H.out).mono ?_; rintro e w1 ⟨rfl, h1⟩; replace H := Lib.hid h1; clear h1) | (go_at_call 11; refine (held_long H.out 0 rfl hcap).mono ?_; rintro e w2 ⟨rfl, h1⟩; rw [hl]; replace H := Lib.hid h1; clear h1))
    go_ret
    exact ⟨rfl, H.out.2⟩
  · replace hl : longB xs = false := by simpa using hl
    have h4 : n ≤ 400 := by have := longB_le hl; omega
    by_cases hs : set < 0 ∨ 31 < set
    · clear hn
      have Hs := Lib.hid hs
      clear hs
      go_enter Try.func4, Try.ntmps4
      go_wp2_with (first | (first | (go_at_call 10; refine (held_alive H.out).mono ?_; rintro e w1 ⟨rfl, h1⟩; replace H := Lib.hid h1; clear h1) | (go_at_call 11; refine (held_long H.out 0 rfl hcap).mono ?_; rintro e w2 ⟨rfl, h1⟩; rw [hl]; replace H := Lib.hid h1; clear h1)) | (go_at_call 15; refine (held_num H.out _).mono ?_; rintro e w6 ⟨rfl, h1⟩; replace H := Lib.hid h1; clear h1) | (go_at_call 12; refine (held_bad H.out (by omega) Hs.out).mono ?_; rintro e w3 ⟨rfl, h1⟩; replace H := Lib.hid h1; clear h1))
      go_ret
      exact ⟨rfl, H.out.2⟩
    obtain ⟨L, hL⟩ : ∃ L, peepF set xs = L := ⟨_, rfl⟩
    have hL2 : peepF set L = L := by rw [← hL]; exact peep_twice set xs
    have hlen : L.length ≤ 401 := by have := peep_le set xs; rw [hL] at this; omega
    have hlen' : L.length ≤ maxLen := by unfold maxLen; omega
    have HL := Lib.hid hL; clear hL
    have HL2 := Lib.hid hL2; clear hL2
    clear hn
    go_enter Try.func4, Try.ntmps4
    go_upto_region 5 with (first | (first | (go_at_call 10; refine (held_alive H.out).mono ?_; rintro e w1 ⟨rfl, h1⟩; replace H := Lib.hid h1; clear h1) | (go_at_call 11; refine (held_long H.out 0 rfl hcap).mono ?_; rintro e w2 ⟨rfl, h1⟩; rw [hl]; replace H := Lib.hid h1; clear h1)) | (go_at_call 12; refine (held_run H.out 0 HL.out rfl (by omega) (by omega) (by omega)).mono ?_; rintro e w3 ⟨A1, c1, rfl, h1⟩; replace H := Lib.hid h1; clear h1))
    go_upto_region 7 with (go_at_call 15; refine (held_num H.out _).mono ?_; rintro e w6 ⟨rfl, h1⟩; replace H := Lib.hid h1; clear h1)
    go_upto_region 8 with (go_at_call 12; refine (held_run H.out 0 HL2.out rfl (by omega) (by omega) (by omega)).mono ?_; rintro e w4 ⟨A2, c2, rfl, h1⟩; replace H := Lib.hid h1; clear h1)
    go_wp2_with (first | (go_at_call 15; refine (held_num H.out _).mono ?_; rintro e w6 ⟨rfl, h1⟩; replace H := Lib.hid h1; clear h1) | (go_at_call 13; refine (held_same H.out 1 0 rfl rfl hlen').mono ?_; rintro e w6 ⟨rfl, h1⟩; replace H := Lib.hid h1; clear h1))
    go_ret
    exact ⟨by simp, H.out.2⟩

set_option maxRecDepth 100000 in
theorem lifted (os : Os) (started : os.Started) (H : Type) (enc : TypeId × Value → H) :
    ReturnsInHanded {} Try.checked os 4 .any (Rows.peepTwiceSpec.pre6 enc Try.prog Try.f4 Rows.peepTwiceRow.domain false) (Rows.peepTwiceSpec.post enc Try.prog Try.f4 false true false false) := by
  refine returnsInHanded_of_change (C := Try.checked) own started (by kernel_rfl) Try.func4
    (ChangeSpec.witness6 (enc := enc) (C := Try.checked) false ⟨#[], #[.slice none 0 0, .int .i64 0], []⟩ 8 (by kernel_rfl) (by kernel_rfl) (by kernel_rfl) (by kernel_rfl)) ?_
  intro W base args ds gs before hval0 hW hcnd _
  have hval : ∀ (j : Nat) t v, Try.f4.params[j]? = some t → args[j]? = some v → Value.okWide Try.prog W .any base t v := hval0
  have hW' := hW
  obtain ⟨p, q, hA0, hV, rfl, hfz, hnd⟩ := hW
  have hA : DataW.TrodAll enc Try.prog W 0 (fun _ => true) true Try.f4.params.toList args.toList ds p := hA0
  rw [Try.params4] at hA hval
  obtain ⟨v0, vs0, d0, ds0, p0, q0, hargs, rfl, rfl, h0, r0⟩ := trodAll_cons hA
  obtain ⟨v1, vs1, d1, ds1, p1, q1, rfl, rfl, rfl, h1, r1⟩ := trodAll_cons r0
  obtain ⟨rfl, rfl, rfl⟩ := trodAll_nil r1
  obtain rfl : args = #[v0, v1] := by cases args; simp_all
  obtain ⟨rfl, rfl⟩ := trodVars_none hV
  obtain ⟨a0, len0, cap0, rfl⟩ := okWide_slice Try.underlying22 (hval 0 22 v0 rfl rfl)
  have k0 := h0
  have lt0 : ∀ x ∈ p0, x.block < W.heap.size := by obtain ⟨m, hm⟩ := k0; exact DataW.trod_lt m _ _ _ hm
  obtain ⟨xs0, hlen0, hS0, hcap0⟩ : ∃ xs : List Ins, xs.length = len0 ∧ Sl W W.heap.size 5 a0 len0 (insL xs) ∧ len0 ≤ maxLen := by
    obtain ⟨fuel, hf⟩ := h0
    exact open_ins hf lt0
  obtain ⟨a1, rfl, rfl, rfl, w1⟩ := open_int Try.underlying3 (hval 1 3 v1 rfl rfl) h1
  clear hA0 hval0
  refine (walk xs0 a0 len0 cap0 a1 W hS0 hlen0 hcap0 w1).mono fun e W' ⟨he, bel⟩ => ?_
  subst he
  exact ⟨_, rfl, _, _, _, [], _, [], hW', trodAll_mk1 (shut_bool Try.underlying4 _), (trodAll_cons_mk (Below.trod laidOut (by kernel_rfl) (of_decide_eq_true (by kernel_rfl)) k0 bel lt0) (trodAll_cons_mk (shut_int Try.underlying3 w1) trodAll_mk0)), rfl, bel.frame _, fun h => by cases h⟩

theorem over : Rows.peepTwiceRow.holds Try.pinned (OpenSpec.ofChange Rows.peepTwiceSpec) :=
  OpenClaim.holds_of_wide 4 Try.f4 rfl rfl rfl rfl rfl rfl rfl ⟨rfl, rfl, rfl, rfl, rfl⟩ rfl rfl rfl rfl rfl (by kernel_rfl) Try.func4 (by kernel_rfl)
    (of_decide_eq_true (by kernel_rfl)) (by unfold Func.isWrapper; first | (rw [if_pos (by decide +kernel)]; kernel_rfl) | (rw [if_neg (by decide +kernel)]; exact ⟨rfl, rfl⟩))
    (fun os started H enc _ => lifted os started H enc)

theorem proved : Rows.PeepTwiceSaid := over
#print axioms proved
end Go.Proofs.Ytbpgakghdpflnaa.peepTwiceDone
