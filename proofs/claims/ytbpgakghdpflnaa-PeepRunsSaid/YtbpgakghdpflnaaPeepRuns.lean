/- PeepRuns. -/
import Derived.Test.YtbpgakghdpflnaaRefRun
import Derived.Test.YtbpgakghdpflnaaStore
import Derived.Test.YtbpgakghdpflnaaHeld
namespace Go.Proofs.Ytbpgakghdpflnaa.peepRunsDone
open Go.ChangeShapes Go.WideShapes Go.ChangeAt Go.RowKit Go.Deep

def markI : Ins := ⟨-71, ByteArray.empty, ByteArray.empty, 0, 0⟩
def overI : Ins := ⟨-1, ByteArray.empty, ByteArray.empty, 0, 0⟩
theorem held_ref {w0 w : World} {l : List (Option Addr × Nat × List Ins)} (h : Held w0 w l) (k : Nat) {A : Option Addr} {n c : Nat} {xs L : List Ins} {set : Int} (hL : peepF set xs = L) (hk : l[k]? = some (A, n, xs)) (h4 : n ≤ 4095) (hs0 : 0 ≤ set) (hs1 : set ≤ 31) :
    Calls Try.prog 14 #[.slice A n c, .int .i64 set] w fun e w' => ∃ B d, e = .returned (.tuple #[.slice B L.length d, .int .i64 0]) ∧ Held w0 w' ((B, L.length, L) :: l) := by
  subst hL
  exact (ref_run xs set A n c w (h.at k hk) (h.len k hk) h4 hs0 hs1).mono fun _ _ ⟨B, d, e, ho, hb⟩ => ⟨B, d, e, h.own hb ho⟩
theorem held_refbad {w0 w : World} {l : List (Option Addr × Nat × List Ins)} (h : Held w0 w l) {A : Option Addr} {n c : Nat} {set : Int} (h4 : n ≤ 4096) (hs : set < 0 ∨ 31 < set) :
    Calls Try.prog 14 #[.slice A n c, .int .i64 set] w fun e w' => e = .returned (.tuple #[.slice none 0 0, .int .i64 1]) ∧ Held w0 w' l :=
  (ref_bad set A n c w h4 hs).mono fun _ _ ⟨a, b⟩ => ⟨a, h.next b⟩
theorem held_nil {w0 w : World} {l : List (Option Addr × Nat × List Ins)} (h : Held w0 w l) : Held w0 w ((none, 0, []) :: l) := h.add rfl (Sl.nil _ _ _ _)

set_option maxHeartbeats 4000000 in
theorem walk (xs : List Ins) (A : Option Addr) (n c : Nat) (ys : List Ins) (A' : Option Addr) (n' c' : Nat) (set : Int) (w : World) (hA : Sl w w.heap.size 5 A n (insL xs)) (hn : xs.length = n) (hcap : n ≤ maxLen)
    (hA' : Sl w w.heap.size 5 A' n' (insL ys)) (hn' : ys.length = n') (hcap' : n' ≤ maxLen) (_ : (Lit.int .i64 set).wf = true) :
    Calls Try.prog 3 #[.slice A n c, .slice A' n' c', .int .i64 set] w fun e w' => e = .returned (.bool true) ∧ Below w.heap.size w w' := by
  have H : Held w w [(A, n, xs), (A', n', ys)] := Held.add (Held.add ⟨fun q hq => (by cases hq), Below.refl _ _⟩ hn' hA') hn hA
  replace H := Lib.hid H
  clear hA hA'
  cases hl : longB xs with
  | true =>
    clear hn hn'
    go_enter Try.func3, Try.ntmps3
    go_wp2_with (first | (go_at_call 10; refine (held_alive H.out).mono ?_; rintro e w1 ⟨rfl, h1⟩; replace H := Lib.hid h1; clear h1) | (go_at_call 11; refine (held_long H.out 0 rfl hcap).mono ?_; rintro e w2 ⟨rfl, h1⟩; rw [hl]; replace H := Lib.hid h1; clear h1))
    go_ret
    exact ⟨rfl, H.out.2⟩
  | false =>
    have h4 : n ≤ 400 := by have := longB_le hl; omega
    have tok1 : True := trivial
    cases hl' : longB ys with
    | true =>
      clear hn hn'
      go_enter Try.func3, Try.ntmps3
      go_wp2_with (first | (go_at_call 10; refine (held_alive H.out).mono ?_; rintro e w1 ⟨rfl, h1⟩; replace H := Lib.hid h1; clear h1) | (go_at_call 11; have _t := tok1; refine (held_long H.out 0 rfl hcap).mono ?_; rintro e w2 ⟨rfl, h1⟩; rw [hl]; replace H := Lib.hid h1; clear h1 tok1 _t) | (go_at_call 11; refine (held_long H.out 1 rfl hcap').mono ?_; rintro e w2 ⟨rfl, h1⟩; rw [hl']; replace H := Lib.hid h1; clear h1))
      go_ret
      exact ⟨rfl, H.out.2⟩
    | false =>
      have h4' : n' ≤ 400 := by have := longB_le hl'; omega
      have HLx : ∀ u ∈ insL xs, u.oneCell' = true := insL_one xs
      replace HLx := Lib.hid HLx
      have Hn := Lib.hid hn
      have Hn' := Lib.hid hn'
      clear hn hn'
      go_enter Try.func3, Try.ntmps3
      go_upto_region 4 with (first | (go_at_call 10; refine (held_alive H.out).mono ?_; rintro e w1 ⟨rfl, h1⟩; replace H := Lib.hid h1; clear h1) | (go_at_call 11; have _t := tok1; refine (held_long H.out 0 rfl hcap).mono ?_; rintro e w2 ⟨rfl, h1⟩; rw [hl]; replace H := Lib.hid h1; clear h1 tok1 _t) | (go_at_call 11; refine (held_long H.out 1 rfl hcap').mono ?_; rintro e w3 ⟨rfl, h1⟩; rw [hl']; replace H := Lib.hid h1; clear h1))
      have tok2 : True := trivial
      go_upto_region 5 with (first | (at_builtin; have _t := tok2; refine wpList_append_sl (base := w3.heap.size) (A := none) (n := 0) (c := 0) (L := []) (A2 := A) (m := n) (L2 := insL xs) rfl _ _ _ rfl Try.insT rfl (World.ownsRow_nil _ _ _ _) rfl (H.out.at 0 rfl) HLx.out (by unfold maxLen; omega) (by omega) (Nat.le_refl _) ?_; intro A4 c4 w4 ho4 hg4 hat4; clear tok2 _t hat4; simp only [Nat.zero_add, List.nil_append] at ho4 ⊢; have hs4 := hg4.size) | (at_builtin; refine wpList_append_one rfl _ _ _ rfl Try.insT rfl ho4 _ rfl (by simp) rfl (Ins.cells_one markI) (by unfold maxLen; omega) (by omega) hs4 ?_; intro g5 c5 w5 ho5 hg5 hat5))
      have hS5 : Sl w5 w5.heap.size 5 (some ⟨g5, 0, none⟩) (n + 1) (insL (xs ++ [markI])) := by rw [insL_snoc]; exact Sl.of_own ho5
      have hS5' : Sl w5 w5.heap.size 5 (some ⟨g5, 0, none⟩) n (insL xs) := by
        have := hS5.first (Nat.le_succ n)
        have e : (xs ++ [markI]).take n = xs := by rw [← Hn.out, List.take_left]
        rwa [insL_take, e] at this
      have hb35 : Below w3.heap.size w3 w5 := (below_grown hg4 (Nat.le_refl _) (fun g e => by cases e)).trans (below_grown hg5 hs4 (own_blk ho4))
      have h5 := ((H.out.next hb35).add (xs := xs ++ [markI]) (by simp [Hn.out]) hS5).add Hn.out hS5'
      have hnc : n ≤ c5 := by have := (own_row ho5).2.2.2.1; omega
      replace H := Lib.hid h5
      clear h5 hS5 hS5' hb35 ho5 ho4 hg4 hg5 hat5 hs4
      have tok3 : True := trivial
      by_cases hs : set < 0 ∨ 31 < set
      · replace hs := Lib.hid hs
        go_upto_block 0 with (go_at_call 12; refine (held_bad H.out (by omega) hs.out).mono ?_; rintro e w6 ⟨rfl, h1⟩; replace H := Lib.hid h1; clear h1)
        go_wp2
        go_loopw [13] (fun i wr => i = .int .i64 0 ∧ Held w wr [(some ⟨g5, 0, none⟩, n, xs), (some ⟨g5, 0, none⟩, n + 1, xs ++ [markI]), (A, n, xs), (A', n', ys)]) (fun _ _ => 0)
        case atStart => exact ⟨rfl, H.out⟩
        case round =>
          obtain ⟨rfl, h1⟩ := hrel
          replace H := Lib.hid h1
          clear h1
          go_upto_region 12 with (first | (go_at_call 13; have _t := tok3; refine (held_same H.out 0 2 rfl rfl (by omega)).mono ?_; rintro e w9 ⟨rfl, h1⟩; replace H := Lib.hid h1; clear h1 tok3 _t; obtain ⟨bq, oq, xq, eq, hbq, hxq, q0, q1, q2, q3, q4⟩ := (H.out.at 1 rfl).ins (H.out.len 1 rfl) (show n < n + 1 by omega); obtain ⟨rfl, rfl⟩ : g5 = bq ∧ 0 = oq := (by injection eq with eq; injection eq with e1 e2; exact ⟨e1, e2⟩); simp only at hxq; obtain rfl : markI = xq := (by rw [List.getElem?_append_right (by rw [Hn.out]; exact Nat.le_refl _), Hn.out, Nat.sub_self] at hxq; injection hxq); simp only [Nat.zero_add, markI] at q0; clear q1 q2 q3 q4 eq hxq))
          replace H := Lib.hid (held_nil H.out)
          go_wp2_with (first | (go_at_call 14; refine (held_refbad H.out (by omega) hs.out).mono ?_; rintro e w6 ⟨rfl, h1⟩; replace H := Lib.hid h1; clear h1) | (go_at_call 15; refine (held_num H.out _).mono ?_; rintro e w6 ⟨rfl, h1⟩; replace H := Lib.hid h1; clear h1) | (go_at_call 13; refine (held_same H.out 0 0 rfl rfl (Nat.zero_le _)).mono ?_; rintro e w9 ⟨rfl, h1⟩; replace H := Lib.hid h1; clear h1))
          go_ret
          exact ⟨by simp, H.out.2⟩
      · obtain ⟨L, hL⟩ : ∃ L, peepF set xs = L := ⟨_, rfl⟩
        obtain ⟨M, hM⟩ : ∃ M, peepF set ys = M := ⟨_, rfl⟩
        have hLl : L.length ≤ 401 := by have := peep_le set xs; have := Hn.out; rw [← hL]; omega
        have hMl : M.length ≤ 401 := by have := peep_le set ys; have := Hn'.out; rw [← hM]; omega
        have hLm : L.length ≤ maxLen := by unfold maxLen; omega
        replace hL := Lib.hid hL
        replace hM := Lib.hid hM
        go_upto_region 6 with (go_at_call 12; refine (held_run H.out 0 hL.out rfl (by omega) (by omega) (by omega)).mono ?_; rintro e w6 ⟨A1, c1, rfl, h1⟩; replace H := Lib.hid h1; clear h1)
        go_upto_block 0 with (go_at_call 12; refine (run_sl ys set _ _ _ _ _ hM.out (show Sl _ _ 5 A' n' (insL ys) from H.out.at 4 (q := (A', n', ys)) rfl) (show ys.length = n' from H.out.len 4 (q := (A', n', ys)) rfl) (by omega) (by omega) (by omega)).mono ?_; rintro e w7 ⟨A2, c7, rfl, ho7, hb7⟩)
        go_wp2
        go_loopw [13] (fun i wr => ∃ k : Nat, k ≤ M.length ∧ i = .int .i64 k ∧ (∃ Lm, wr.ownsRow w6.heap.size 26 5 (.slice A2 M.length c7) M.length Lm) ∧ Below w6.heap.size w6 wr) (fun i _ => M.length - (intOf i).toNat)
        case atStart => exact ⟨0, Nat.zero_le _, rfl, ⟨_, ho7⟩, hb7⟩
        case round =>
          obtain ⟨k, hk, rfl, ⟨Lm, ho⟩, hbw⟩ := hrel
          clear ho7 hb7
          by_cases hlt : k < M.length
          · have hki : (k : Int) < M.length := by omega
            obtain ⟨g, rfl⟩ : ∃ g, A2 = some ⟨g, 0, none⟩ := by
              rcases ho.2 with ⟨_, h⟩ | ⟨g, _, _, h, _⟩
              · omega
              · injection h with h; exact ⟨g, h⟩
            have hg6 := (own_lt ho).1
            go_wp2_with (refine wpList_store_own (sz := 5) (k := k) (off := k * 5) rfl 26 _ _ rfl ho hlt rfl rfl overI.cells rfl rfl (by kernel_rfl) (Ins.cells_one overI) ?_; intro w8 ho8 hg8)
            go_roundw
            case rel => exact ⟨k + 1, by omega, by go_num, ⟨_, ho8⟩, hbw.trans (below_grown hg8 hbw.size (fun g' e => by injection e with e; omega))⟩
            case measure => simp [intOf]; omega
          · obtain rfl : k = M.length := by omega
            have h1 := H.out.next hbw
            replace H := Lib.hid h1
            clear h1 ho
            go_upto_region 12 with (first | (go_at_call 13; have _t := tok3; refine (held_same H.out 1 3 rfl rfl (by omega)).mono ?_; rintro e w9 ⟨rfl, h1⟩; replace H := Lib.hid h1; clear h1 tok3 _t; obtain ⟨bq, oq, xq, eq, hbq, hxq, q0, q1, q2, q3, q4⟩ := (H.out.at 2 rfl).ins (H.out.len 2 rfl) (show n < n + 1 by omega); obtain ⟨rfl, rfl⟩ : g5 = bq ∧ 0 = oq := (by injection eq with eq; injection eq with e1 e2; exact ⟨e1, e2⟩); simp only at hxq; obtain rfl : markI = xq := (by rw [List.getElem?_append_right (by rw [Hn.out]; exact Nat.le_refl _), Hn.out, Nat.sub_self] at hxq; injection hxq); simp only [Nat.zero_add, markI] at q0; clear q1 q2 q3 q4 eq hxq))
            go_wp2_with (first | (go_at_call 14; refine (held_ref H.out 3 hL.out rfl (by omega) (by omega) (by omega)).mono ?_; rintro e w6 ⟨A9, c9, rfl, h1⟩; replace H := Lib.hid h1; clear h1) | (go_at_call 15; refine (held_num H.out _).mono ?_; rintro e w6 ⟨rfl, h1⟩; replace H := Lib.hid h1; clear h1) | (go_at_call 13; refine (held_same H.out 1 0 rfl rfl hLm).mono ?_; rintro e w9 ⟨rfl, h1⟩; replace H := Lib.hid h1; clear h1))
            go_ret
            exact ⟨by simp, H.out.2⟩

set_option maxRecDepth 100000 in
theorem lifted (os : Os) (started : os.Started) (H : Type) (enc : TypeId × Value → H) :
    ReturnsInHanded {} Try.checked os 3 .any (Rows.peepRunsSpec.pre6 enc Try.prog Try.f3 Rows.peepRunsRow.domain false) (Rows.peepRunsSpec.post enc Try.prog Try.f3 false true false false) := by
  refine returnsInHanded_of_change (C := Try.checked) own started (by kernel_rfl) Try.func3
    (ChangeSpec.witness6 (enc := enc) (C := Try.checked) false ⟨#[], #[.slice none 0 0, .slice none 0 0, .int .i64 0], []⟩ 8 (by kernel_rfl) (by kernel_rfl) (by kernel_rfl) (by kernel_rfl)) ?_
  intro W base args ds gs before hval0 hW hcnd _
  have hval : ∀ (j : Nat) t v, Try.f3.params[j]? = some t → args[j]? = some v → Value.okWide Try.prog W .any base t v := hval0
  have hW' := hW
  obtain ⟨p, q, hA0, hV, rfl, hfz, hnd⟩ := hW
  have hA : DataW.TrodAll enc Try.prog W 0 (fun _ => true) true Try.f3.params.toList args.toList ds p := hA0
  rw [Try.params3] at hA hval
  obtain ⟨v0, vs0, d0, ds0, p0, q0, hargs, rfl, rfl, h0, r0⟩ := trodAll_cons hA
  obtain ⟨v1, vs1, d1, ds1, p1, q1, rfl, rfl, rfl, h1, r1⟩ := trodAll_cons r0
  obtain ⟨v2, vs2, d2, ds2, p2, q2, rfl, rfl, rfl, h2, r2⟩ := trodAll_cons r1
  obtain ⟨rfl, rfl, rfl⟩ := trodAll_nil r2
  obtain rfl : args = #[v0, v1, v2] := by cases args; simp_all
  obtain ⟨rfl, rfl⟩ := trodVars_none hV
  obtain ⟨a0, len0, cap0, rfl⟩ := okWide_slice Try.underlying22 (hval 0 22 v0 rfl rfl)
  have k0 := h0
  have lt0 : ∀ x ∈ p0, x.block < W.heap.size := by obtain ⟨m, hm⟩ := k0; exact DataW.trod_lt m _ _ _ hm
  obtain ⟨xs0, hlen0, hS0, hcap0⟩ : ∃ xs : List Ins, xs.length = len0 ∧ Sl W W.heap.size 5 a0 len0 (insL xs) ∧ len0 ≤ maxLen := by
    obtain ⟨fuel, hf⟩ := h0
    exact open_ins hf lt0
  obtain ⟨a1, len1, cap1, rfl⟩ := okWide_slice Try.underlying22 (hval 1 22 v1 rfl rfl)
  have k1 := h1
  have lt1 : ∀ x ∈ p1, x.block < W.heap.size := by obtain ⟨m, hm⟩ := k1; exact DataW.trod_lt m _ _ _ hm
  obtain ⟨xs1, hlen1, hS1, hcap1⟩ : ∃ xs : List Ins, xs.length = len1 ∧ Sl W W.heap.size 5 a1 len1 (insL xs) ∧ len1 ≤ maxLen := by
    obtain ⟨fuel, hf⟩ := h1
    exact open_ins hf lt1
  obtain ⟨a2, rfl, rfl, rfl, w2⟩ := open_int Try.underlying3 (hval 2 3 v2 rfl rfl) h2
  clear hA0 hval0
  refine (walk xs0 a0 len0 cap0 xs1 a1 len1 cap1 a2 W hS0 hlen0 hcap0 hS1 hlen1 hcap1 w2).mono fun e W' ⟨he, bel⟩ => ?_
  subst he
  exact ⟨_, rfl, _, _, _, [], _, [], hW', trodAll_mk1 (shut_bool Try.underlying4 _), (trodAll_cons_mk (Below.trod laidOut (by kernel_rfl) (of_decide_eq_true (by kernel_rfl)) k0 bel lt0) (trodAll_cons_mk (Below.trod laidOut (by kernel_rfl) (of_decide_eq_true (by kernel_rfl)) k1 bel lt1) (trodAll_cons_mk (shut_int Try.underlying3 w2) trodAll_mk0))), rfl, bel.frame _, fun h => by cases h⟩

theorem over : Rows.peepRunsRow.holds Try.pinned (OpenSpec.ofChange Rows.peepRunsSpec) :=
  OpenClaim.holds_of_wide 3 Try.f3 rfl rfl rfl rfl rfl rfl rfl ⟨rfl, rfl, rfl, rfl, rfl⟩ rfl rfl rfl rfl rfl (by kernel_rfl) Try.func3 (by kernel_rfl)
    (of_decide_eq_true (by kernel_rfl)) (by unfold Func.isWrapper; first | (rw [if_pos (by decide +kernel)]; kernel_rfl) | (rw [if_neg (by decide +kernel)]; exact ⟨rfl, rfl⟩))
    (fun os started H enc _ => lifted os started H enc)

theorem proved : Rows.PeepRunsSaid := over
#print axioms proved
end Go.Proofs.Ytbpgakghdpflnaa.peepRunsDone
