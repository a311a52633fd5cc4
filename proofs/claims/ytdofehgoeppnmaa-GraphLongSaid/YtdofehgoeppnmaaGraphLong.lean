/- GraphLong: MaxActs actions are taken, more are not; a row of renames, each needing the next. -/
import Derived.Test.YtdofehgoeppnmaaChain
import Derived.Test.YtdofehgoeppnmaaBase
namespace Go.Proofs.Ytdofehgoeppnmaa.graphLongDone
open Go.ChangeShapes Go.WideShapes Go.ChangeAt Go.RowKit Go.Deep

theorem Try.actT : ElemT Try.prog 23 26 5 56 :=
  ElemT.mk' (z := .agg #[.int .i64 0, .string ByteArray.empty, .string ByteArray.empty, .int .i64 0, .int .i64 0]) Try.underlying23 (by kernel_rfl) rfl (by decide)
theorem label_succ (k : Nat) (hk : k + 1 < 1500) (w : World) : Calls Try.prog 5 #[.int .i64 ((k : Int) + 1)] w fun e w' => e = .returned (.string (lB (k + 1))) ∧ Below w.heap.size w w' := label_any (k + 1) hk w
def chF (k : Nat) : List Value := (chain k).flatMap Ren.list
theorem chF_succ (k : Nat) : chF (k + 1) = chF k ++ (lR k).list := by unfold chF; rw [chain_succ, List.flatMap_append]; simp
/-- What stands ahead of each round of the filling loop. -/
def FillAt (w wr : World) (g n k : Nat) : Prop := ∃ L, wr.ownsRow w.heap.size 26 5 (.slice (some ⟨g, 0, none⟩) n n) n L ∧ L.take (k * 5) = chF k ∧ Below w.heap.size w wr
theorem FillAt.step {w wr w1 : World} {g n k : Nat} {L : List Value} (ho : wr.ownsRow w.heap.size 26 5 (.slice (some ⟨g, 0, none⟩) n n) n L) (ht : L.take (k * 5) = chF k) (hb : Below w.heap.size w wr) (hk : k < n)
    (h1 : w1.ownsRow w.heap.size 26 5 (.slice (some ⟨g, 0, none⟩) n n) n (L.take (k * 5) ++ (lR k).list ++ L.drop ((k + 1) * 5))) (hg : wr.grownBy w1 (some g)) : FillAt w w1 g n (k + 1) :=
  ⟨_, h1, by rw [take_set (sz := 5) rfl (by rw [ho.1]; exact Nat.mul_le_mul_right _ (by omega)), ht, chF_succ], hb.trans (below_grown hg hb.size (fun g' e => by injection e with e; subst e; exact (own_row ho).2.1))⟩
theorem FillAt.sl {w wr : World} {g n : Nat} (h : FillAt w wr g n n) : Sl wr wr.heap.size 5 (some ⟨g, 0, none⟩) n ((chain n).flatMap Ren.list) := by
  obtain ⟨L, h1, h2, h3⟩ := h
  rw [List.take_of_length_le (by rw [h1.1]; exact Nat.le_refl _)] at h2
  show Sl wr wr.heap.size 5 _ n (chF n)
  rw [← h2]; exact Sl.of_own h1
theorem lR_one (k : Nat) : ∀ u ∈ (#[Value.int .i64 3, .string (lB k), .string (lB (k + 1)), .int .i64 0, .int .i64 0] : Array Value).toList, u.oneCell' = true := by simp [Value.oneCell']

set_option maxRecDepth 100000 in
set_option maxHeartbeats 8000000 in
theorem walk (n : Int) (w : World) (_ : (Lit.int .i64 n).wf = true) :
    Calls Try.prog 3 #[.int .i64 n] w fun e w' => e = .returned (.bool true) ∧ Below w.heap.size w w' := by
  by_cases h1 : n < 1
  · go_enter Try.func3, Try.ntmps3
    go_wp2_with (go_at_call 4; refine (alive13 _).mono ?_; rintro e w1 ⟨rfl, hb1⟩)
    go_ret
    exact ⟨rfl, hb1⟩
  by_cases h3 : 1030 < n
  · go_enter Try.func3, Try.ntmps3
    go_wp2_with (go_at_call 4; refine (alive13 _).mono ?_; rintro e w1 ⟨rfl, hb1⟩)
    go_ret
    exact ⟨rfl, hb1⟩
  obtain ⟨n, rfl⟩ := Int.eq_ofNat_of_zero_le (show 0 ≤ n by omega)
  have hn3 : n ≤ 1030 := by omega
  have hn1 : 1 ≤ n := by omega
  go_enter Try.func3, Try.ntmps3
  go_wp2_with (first | (go_at_call 4; refine (alive13 _).mono ?_; rintro e w1 ⟨rfl, hb1⟩; have hs1 := hb1.size) | (refine wpList_make_own rfl _ _ rfl Try.actT rfl rfl (by omega) (by unfold maxLen; omega) hs1 ?_; intro g w2 L ho2 hg2))
  have hF0 : FillAt w w2 g n 0 := ⟨L, ho2, by simp [chF, chain], hb1.trans (below_grown hg2 hs1 (fun g e => by cases e))⟩
  clear ho2 hg2 hb1 hs1
  go_loopw [5] (fun i wr => ∃ k : Nat, k ≤ n ∧ i = .int .i64 k ∧ FillAt w wr g n k) (fun i _ => n - (intOf i).toNat)
  case atStart => exact ⟨0, Nat.zero_le _, rfl, hF0⟩
  case round =>
    obtain ⟨k, hk, rfl, hF⟩ := hrel
    replace hF0 := Lib.hid hF0
    by_cases hlt : k < n
    · have hki : (k : Int) < n := by omega
      obtain ⟨L', ho, ht, hbw⟩ := hF
      replace ht := Lib.hid ht
      have hws := hbw.size
      have hone := lR_one k
      go_wp2_with (first | (go_at_call 5; (first | ((with_reducible refine (label_any k (by omega) _).mono ?_); rintro e w3 ⟨rfl, hb3⟩) | ((with_reducible refine (label_succ k (by omega) _).mono ?_); rintro e w3 ⟨rfl, hb3⟩)); replace ho := own_keep ho (fun g' o e => hb3.block g' (by injection e with e; injection e with e; subst e; exact (own_row ho).2.2.1)); replace hbw := hbw.trans (hb3.mono hbw.size); have hws := hbw.size) | ((refine wpList_store_own (sz := 5) (k := k) (off := k * 5) rfl 26 _ _ rfl ho hlt rfl rfl #[.int .i64 3, .string (lB k), .string (lB (k + 1)), .int .i64 0, .int .i64 0] rfl rfl (by kernel_rfl) hone ?_); intro w5 ho5 hg5))
      go_roundw
      case rel => exact ⟨k + 1, by omega, by go_num, FillAt.step ho ht.out hbw hlt ho5 hg5⟩
      case measure => simp [intOf]; omega
    · obtain rfl : k = n := by omega
      have hS := Lib.hid hF.sl
      have hbw := hF.choose_spec.2.2
      have hws := hbw.size
      have hlen := Lib.hid (chain_len k)
      clear hF hF0
      by_cases h4 : 1024 < k
      · have h4i : (1024 : Int) < k := by omega
        go_wp2_with (first | (go_at_call 6; refine (needs_long _ _ _ _ h4).mono ?_; rintro e w6 ⟨rfl, hb6⟩; replace hbw := hbw.trans (hb6.mono hbw.size)) | (go_at_call 7; refine (num13 _ _).mono ?_; rintro e w7 ⟨rfl, hw⟩; rw [hw]; clear hw))
        go_ret
        exact ⟨rfl, hbw⟩
      · have h4i : ¬ (1024 : Int) < k := by omega
        have hN := needs_any (chain k) (some ⟨g, 0, none⟩) k k _ hS.out hlen.out (by omega) (by omega)
        have HN := Lib.hid hN; clear hN
        have hk1 : (k : Int) - 1 = ((k - 1 : Nat) : Int) := by omega
        go_upto_region 10 with (go_at_call 6; refine HN.out.mono ?_; rintro e w6 ⟨G, c, LL, rfl, hR, hGl, hLL, hE, hb6⟩)
        replace hbw := hbw.trans (hb6.mono hbw.size)
        have HR := Lib.hid hR; have HE := Lib.hid hE
        clear hR hE hb6 hws HN hS
        obtain ⟨vl, gl, hl⟩ := HE.out (k - 1) _ (chain_get (by omega))
        rw [chain_need (by omega) (by omega), if_neg (by omega)] at hl
        have hv := hl.none
        subst hv
        have r0 := HR.out _ _ gl
        simp only [Nat.zero_add] at r0
        go_wp2_with (go_at_call 7; refine (num13 _ _).mono ?_; rintro e w7 ⟨rfl, hw⟩; rw [hw]; clear hw)
        go_loopw [8] (fun i wr => ∃ j : Nat, j < k ∧ i = .int .i64 j ∧ wr = w6) (fun i _ => k - (intOf i).toNat)
        case atStart => exact ⟨0, by omega, rfl, rfl⟩
        case round =>
          obtain ⟨j, hj, rfl, rfl⟩ := hrel
          by_cases hlt : j + 1 < k
          · have hji : (j : Int) + 1 < k := by omega
            obtain ⟨vj, gj, hj1⟩ := HE.out j _ (chain_get (by omega))
            rw [chain_need (by omega) hj, if_pos hlt] at hj1
            obtain ⟨bj, cj, rfl, qj⟩ := hj1.one
            have r1 := HR.out _ _ gj
            simp only [Nat.zero_add] at r1
            have hcast : ((j + 1 : Nat) : Int) = (j : Int) + 1 := by omega
            rw [hcast] at qj
            go_wp2
            go_roundw
            case rel => exact ⟨j + 1, by omega, by go_num, trivial⟩
            case measure => simp [intOf]; omega
          · have hji : ¬ (j : Int) + 1 < k := by omega
            go_wp2
            go_ret
            exact ⟨rfl, hbw⟩


set_option maxRecDepth 100000 in
theorem lifted (os : Os) (started : os.Started) (H : Type) (enc : TypeId × Value → H) :
    ReturnsInHanded {} Try.checked os 3 .any (Rows.graphLongSpec.pre6 enc Try.prog Try.f3 Rows.graphLongRow.domain false) (Rows.graphLongSpec.post enc Try.prog Try.f3 false true false false) := by
  refine returnsInHanded_of_change (C := Try.checked) own started (by kernel_rfl) Try.func3
    (ChangeSpec.witness6 (enc := enc) (C := Try.checked) false ⟨#[], #[.int .i64 0], []⟩ 8 (by kernel_rfl) (by kernel_rfl) (by kernel_rfl) (by kernel_rfl)) ?_
  intro W base args ds gs before hval0 hW hcnd _
  have hval : ∀ (j : Nat) t v, Try.f3.params[j]? = some t → args[j]? = some v → Value.okWide Try.prog W .any base t v := hval0
  have hW' := hW
  obtain ⟨p, q, hA0, hV, rfl, hfz, hnd⟩ := hW
  have hA : DataW.TrodAll enc Try.prog W 0 (fun _ => true) true Try.f3.params.toList args.toList ds p := hA0
  rw [Try.params3] at hA hval
  obtain ⟨v0, vs0, d0, ds0, p0, q0, hargs, rfl, rfl, h0, r0⟩ := trodAll_cons hA
  obtain ⟨rfl, rfl, rfl⟩ := trodAll_nil r0
  obtain rfl : args = #[v0] := by cases args; simp_all
  obtain ⟨rfl, rfl⟩ := trodVars_none hV
  obtain ⟨a0, rfl, rfl, rfl, w0⟩ := open_int Try.underlying3 (hval 0 3 v0 rfl rfl) h0
  clear hA0 hval0
  refine (walk a0 W w0).mono fun e W' ⟨he, bel⟩ => ?_
  subst he
  exact ⟨_, rfl, _, _, _, [], _, [], hW', trodAll_mk1 (shut_bool Try.underlying4 _), (trodAll_cons_mk (shut_int Try.underlying3 w0) trodAll_mk0), rfl, bel.frame _, fun h => by cases h⟩

theorem over : Rows.graphLongRow.holds Try.pinned (OpenSpec.ofChange Rows.graphLongSpec) :=
  OpenClaim.holds_of_wide 3 Try.f3 rfl rfl rfl rfl rfl rfl rfl ⟨rfl, rfl, rfl, rfl, rfl⟩ rfl rfl rfl rfl rfl (by kernel_rfl) Try.func3 (by kernel_rfl)
    (of_decide_eq_true (by kernel_rfl)) (by unfold Func.isWrapper; first | (rw [if_pos (by decide +kernel)]; kernel_rfl) | (rw [if_neg (by decide +kernel)]; exact ⟨rfl, rfl⟩))
    (fun os started H enc _ => lifted os started H enc)

theorem proved : Rows.GraphLongSaid := over
#print axioms proved
end Go.Proofs.Ytdofehgoeppnmaa.graphLongDone
