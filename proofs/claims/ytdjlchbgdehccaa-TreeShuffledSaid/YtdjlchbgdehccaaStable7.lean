/- slices.SortStableFunc at nodes: a list that is a permutation of the one that was, in order. -/
import Derived.Test.YtdjlchbgdehccaaStable6
namespace Go.Proofs.Ytdjlchbgdehccaa
open Go.RowKit

/-- What the sort brings about. -/
def SortedRes (w0 : World) (base : Nat) (A : Option Addr) (n c : Nat) (l : List Node) (e : Ending) (W' : World) : Prop :=
  e = .returned (.tuple #[]) ∧ ∃ l' : List Node, l'.Perm l ∧ SrtN l' ∧ SortSt w0 base A n c l' W'
theorem three_parts (l : List Node) (p s : Nat) : l = l.take p ++ (l.drop p).take s ++ l.drop (p + s) := by
  have h1 := List.take_append_drop p l
  have h2 := List.take_append_drop s (l.drop p)
  rw [List.drop_drop] at h2
  rw [List.append_assoc, h2, h1]
/-- Blocks of 20, one by one. -/
structure ByTwenty (w0 : World) (base : Nat) (A : Option Addr) (n c : Nat) (l0 : List Node) (t p : Nat) (W : World) : Prop where
  ex : ∃ l : List Node, l.Perm l0 ∧ SortSt w0 base A n c l W ∧ ∀ k, k < t → SrtN ((l.drop (k * 20)).take 20)
  at_ : p = t * 20
theorem ByTwenty.call {w0 W : World} {base n c : Nat} {A : Option Addr} {l0 : List Node} {t p : Nat} (hn : n ≤ 1000000) (h : ByTwenty w0 base A n c l0 t p W) (hb : p + 20 ≤ n) :
    Calls Try.prog 100 #[.slice A n c, .int .i64 p, .int .i64 (p + 20 : Nat), cmpV] W fun e W' => e = .returned (.tuple #[]) ∧ ByTwenty w0 base A n c l0 (t + 1) (p + 20) W' := by
  obtain ⟨⟨l, hp, hs, hk⟩, ht⟩ := h
  have hln := hs.len
  have e := three_parts l p 20
  have hA : (l.take p).length = p := by rw [List.length_take]; omega
  have hU : ((l.drop p).take 20).length = 20 := by rw [List.length_take, List.length_drop]; omega
  refine (insertion_any w0 base n c A (l.take p) ((l.drop p).take 20) (l.drop (p + 20)) p (p + 20) W hA (by rw [hU]) hn (by rw [← e]; exact hs)).mono ?_
  rintro en W' ⟨rfl, V, hV1, hV2, hV3⟩
  refine ⟨rfl, ⟨_, ?_, hV3, ?_⟩, by omega⟩
  · refine List.Perm.trans ?_ hp
    conv => rhs; rw [e]
    exact List.Perm.append_right _ (List.Perm.append_left _ hV1)
  · exact blk_step hV1 hV2 (by rw [hA]; exact ht) (.inl hU) (by rw [← e]; exact hk)
theorem ByTwenty.last {w0 W : World} {base n c : Nat} {A : Option Addr} {l0 : List Node} {t p : Nat} (hn : n ≤ 1000000) (h : ByTwenty w0 base A n c l0 t p W) (h1 : p ≤ n) (h2 : n < p + 20) :
    Calls Try.prog 100 #[.slice A n c, .int .i64 p, .int .i64 n, cmpV] W fun e W' => e = .returned (.tuple #[]) ∧ ∃ l : List Node, l.Perm l0 ∧ SortSt w0 base A n c l W' ∧ Blocks 20 l := by
  obtain ⟨⟨l, hp, hs, hk⟩, ht⟩ := h
  have hln := hs.len
  have e : l = l.take p ++ l.drop p ++ [] := by rw [List.append_nil, List.take_append_drop]
  have hA : (l.take p).length = p := by rw [List.length_take]; omega
  have hU : (l.drop p).length = n - p := by rw [List.length_drop]; omega
  refine (insertion_any w0 base n c A (l.take p) (l.drop p) [] p n W hA (by rw [hU]; omega) hn (by rw [← e]; exact hs)).mono ?_
  rintro en W' ⟨rfl, V, hV1, hV2, hV3⟩
  refine ⟨rfl, _, ?_, hV3, ?_⟩
  · refine List.Perm.trans ?_ hp
    conv => rhs; rw [e]
    exact List.Perm.append_right _ (List.Perm.append_left _ hV1)
  · have h3 := blk_step (t := t) hV1 hV2 (by rw [hA]; exact ht) (.inr ⟨by rw [hU]; omega, rfl⟩) (by rw [← e]; exact hk)
    refine blocks_of h3 ?_
    rw [hV3.len]
    omega
/-- Pairs of blocks, one by one. -/
structure ByPairs (w0 : World) (base : Nat) (A : Option Addr) (n c : Nat) (l0 : List Node) (s t p : Nat) (W : World) : Prop where
  ex : ∃ l : List Node, l.Perm l0 ∧ SortSt w0 base A n c l W ∧ PairsP s t l
  at_ : p = t * (2 * s)
theorem ByPairs.call {w0 W : World} {base n c : Nat} {A : Option Addr} {l0 : List Node} {s t p : Nat} (hn : n ≤ 1000000) (h : ByPairs w0 base A n c l0 s t p W) (hs0 : 0 < s) (hb : p + 2 * s ≤ n) :
    Calls Try.prog 101 #[.slice A n c, .int .i64 p, .int .i64 (p + s : Nat), .int .i64 (p + 2 * s : Nat), cmpV] W fun e W' => e = .returned (.tuple #[]) ∧ ByPairs w0 base A n c l0 s (t + 1) (p + 2 * s) W' := by
  obtain ⟨⟨l, hp, hs, hk⟩, ht⟩ := h
  have hln := hs.len
  obtain ⟨A1, U, V, B, hl, hA, hU, hV0, sU, sV, hV, _⟩ := pair_parts hk hs0 (by rw [← ht]; omega)
  have hVs := hV (by rw [← ht]; omega)
  rw [← ht] at hA
  subst hl
  refine (merge_any w0 base n c A hn (U.length + V.length) A1 U V B p (p + s) (p + 2 * s) W (Nat.le_refl _) hA (by rw [hU]) (by rw [hVs]; omega) (by omega) hV0 sU sV hs).mono ?_
  rintro en W' ⟨rfl, Q, hQ1, hQ2, hQ3⟩
  refine ⟨rfl, ⟨_, ?_, hQ3, hk.step hQ1 hQ2 (by rw [hA]; exact ht) (by rw [List.length_append, hU, hVs]; omega)⟩, by rw [ht, Nat.add_mul, Nat.one_mul]⟩
  exact List.Perm.trans (List.Perm.append_right _ (List.Perm.append_left _ hQ1)) hp
theorem ByPairs.last {w0 W : World} {base n c : Nat} {A : Option Addr} {l0 : List Node} {s t p : Nat} (hn : n ≤ 1000000) (h : ByPairs w0 base A n c l0 s t p W) (hs0 : 0 < s) (h1 : p + s < n) (h2 : n < p + 2 * s) :
    Calls Try.prog 101 #[.slice A n c, .int .i64 p, .int .i64 (p + s : Nat), .int .i64 n, cmpV] W fun e W' => e = .returned (.tuple #[]) ∧ ∃ l : List Node, l.Perm l0 ∧ SortSt w0 base A n c l W' ∧ Blocks (2 * s) l := by
  obtain ⟨⟨l, hp, hs, hk⟩, ht⟩ := h
  have hln := hs.len
  obtain ⟨A1, U, V, B, hl, hA, hU, hV0, sU, sV, _, hB⟩ := pair_parts hk hs0 (by rw [← ht]; omega)
  obtain ⟨rfl, hBl⟩ := hB (by rw [← ht]; omega)
  rw [← ht] at hA
  subst hl
  refine (merge_any w0 base n c A hn (U.length + V.length) A1 U V [] p (p + s) n W (Nat.le_refl _) hA (by rw [hU]) (by omega) (by omega) hV0 sU sV hs).mono ?_
  rintro en W' ⟨rfl, Q, hQ1, hQ2, hQ3⟩
  refine ⟨rfl, _, List.Perm.trans (List.Perm.append_right _ (List.Perm.append_left _ hQ1)) hp, hQ3, ?_⟩
  rw [List.append_nil]
  rw [List.append_nil] at hk
  exact hk.last hQ1 hQ2 (by rw [hA]; exact ht) (by rw [List.length_append]; omega)
theorem ByPairs.none {w0 W : World} {base n c : Nat} {A : Option Addr} {l0 : List Node} {s t p : Nat} (h : ByPairs w0 base A n c l0 s t p W) (h0 : p ≤ n) (h1 : n ≤ p + s) : ∃ l : List Node, l.Perm l0 ∧ SortSt w0 base A n c l W ∧ Blocks (2 * s) l := by
  obtain ⟨⟨l, hp, hs, hk⟩, ht⟩ := h
  have hln := hs.len
  exact ⟨l, hp, hs, hk.none (by rw [← ht]; omega) (by rw [← ht]; omega)⟩
set_option maxRecDepth 100000 in
set_option maxHeartbeats 8000000 in
theorem stable_any (w0 : World) (base n c : Nat) (A : Option Addr) (l0 : List Node) (W : World) (hn : n ≤ 1000000) (h : SortSt w0 base A n c l0 W) :
    Calls Try.prog 89 #[.slice A n c, .int .i64 n, cmpV] W (SortedRes w0 base A n c l0) := by
  have h0 : ByTwenty w0 base A n c l0 0 0 W := ⟨⟨l0, List.Perm.refl _, h, fun k hk => by omega⟩, by omega⟩
  have H0 := Lib.hid h0
  clear h h0
  go_enter Try.func89, Try.ntmps89
  go_wp2
  go_loopw [7, 8] (fun va vb wr => ∃ t p q : Nat, va = .int .i64 p ∧ vb = .int .i64 q ∧ q = p + 20 ∧ p ≤ n ∧ ByTwenty w0 base A n c l0 t p wr) (fun va _ _ => n + 1 - (intOf va).toNat)
  case atStart => exact ⟨0, 0, 20, rfl, rfl, rfl, Nat.zero_le _, H0.out⟩
  case round =>
    clear H0
    obtain ⟨t, p, q, rfl, rfl, hq, hpn, hbt⟩ := hrel
    by_cases hlt : q ≤ n
    · have hki : (q : Int) ≤ n := by omega
      have hc := hbt.call hn (by omega)
      rw [← hq] at hc
      have HC := Lib.hid hc; have HQ := Lib.hid hq
      clear hc hbt hq
      go_wp2_with (go_at_call 100; refine HC.out.mono ?_; rintro e w1 ⟨rfl, hb1⟩)
      go_roundw
      case rel => exact ⟨t + 1, q, q + 20, rfl, by go_num, rfl, hlt, hb1⟩
      case measure => have := HQ.out; simp [intOf] <;> omega
    · have hki : ¬ (q : Int) ≤ n := by omega
      have hc := hbt.last hn hpn (by omega)
      have HC := Lib.hid hc
      clear hc hbt hq
      go_upto_region 7 with (go_at_call 100; refine HC.out.mono ?_; rintro e w1 ⟨rfl, hb1⟩)
      have HB := Lib.hid hb1
      clear hb1 HC hki hlt hpn
      go_wp2
      go_loopw [6] (fun v wr => ∃ s : Nat, v = .int .i64 s ∧ 0 < s ∧ s ≤ 2000000 ∧ ∃ l : List Node, l.Perm l0 ∧ SortSt w0 base A n c l wr ∧ Blocks s l) (fun v _ => n - (intOf v).toNat)
      case atStart => exact ⟨20, rfl, by omega, by omega, HB.out⟩
      case round =>
        clear HB
        obtain ⟨s, rfl, hs0, hs2, l, hp, hst, hbl⟩ := hrel
        by_cases hlt : s < n
        · have hki : (s : Int) < n := by omega
          have h1 : ByPairs w0 base A n c l0 s 0 0 wr := ⟨⟨l, hp, hst, PairsP.begin hbl⟩, by omega⟩
          have H1 := Lib.hid h1
          obtain ⟨d, hd⟩ : ∃ d, 2 * s = d := ⟨_, rfl⟩
          have wd : IntKind.i64.wrap (2 * (s : Int)) = (d : Int) := by rw [IntKind.wrap_i64]; omega
          have wd2 : IntKind.i64.wrap ((s : Int) * 2) = (d : Int) := by rw [IntKind.wrap_i64]; omega
          have HD := Lib.hid hd
          clear h1 hp hst hbl hd
          go_wp2
          go_loopw [7, 8] (fun va vb wr => ∃ t p q : Nat, va = .int .i64 p ∧ vb = .int .i64 q ∧ q = p + d ∧ p ≤ n ∧ ByPairs w0 base A n c l0 s t p wr) (fun va _ _ => n + 1 - (intOf va).toNat)
          case atStart => exact ⟨0, 0, d, rfl, rfl, by omega, Nat.zero_le _, H1.out⟩
          case round =>
            clear H1
            obtain ⟨t, p, q, rfl, rfl, hq, hpn, hbp⟩ := hrel
            have hd := HD.out
            obtain ⟨m1, hm1⟩ : ∃ m, p + s = m := ⟨_, rfl⟩
            have wm : IntKind.i64.wrap ((p : Int) + s) = (m1 : Int) := by rw [IntKind.wrap_i64]; omega
            by_cases hlt2 : q ≤ n
            · have hki2 : (q : Int) ≤ n := by omega
              have hc := hbp.call hn hs0 (by omega)
              rw [hm1, show p + 2 * s = q by omega] at hc
              have hqd : IntKind.i64.wrap ((q : Int) + d) = ((q + d : Nat) : Int) := by rw [IntKind.wrap_i64]; omega
              have HC := Lib.hid hc; have HQ := Lib.hid hq; have HM := Lib.hid hm1
              clear hc hbp hq hm1 hd
              go_wp2_with (go_at_call 101; refine HC.out.mono ?_; rintro e w2 ⟨rfl, hb2⟩)
              go_roundw
              case rel => exact ⟨t + 1, q, q + d, rfl, by go_num, rfl, hlt2, hb2⟩
              case measure => have := HQ.out; have := HD.out; simp [intOf] <;> omega
            · have hki2 : ¬ (q : Int) ≤ n := by omega
              by_cases hlt3 : m1 < n
              · have hki3 : (m1 : Int) < n := by omega
                have hc := hbp.last hn hs0 (by omega) (by omega)
                rw [hm1] at hc
                rw [hd] at hc
                have HC := Lib.hid hc
                clear hc hbp hq hm1 hd
                go_wp2_with (go_at_call 101; refine HC.out.mono ?_; rintro e w2 ⟨rfl, hb2⟩)
                go_roundw
                case rel => exact ⟨d, by go_num, by have := HD.out; omega, by have := HD.out; omega, hb2⟩
                case measure => have := HD.out; simp [intOf] <;> omega
              · have hki3 : ¬ (m1 : Int) < n := by omega
                have hc := hbp.none hpn (by omega)
                rw [hd] at hc
                have HC := Lib.hid hc
                clear hc hbp hq hm1 hd
                go_wp2
                go_roundw
                case rel => exact ⟨d, by go_num, by have := HD.out; omega, by have := HD.out; omega, HC.out⟩
                case measure => have := HD.out; simp [intOf] <;> omega
        · have hki : ¬ (s : Int) < n := by omega
          have hfin : SrtN l := blocks_all hbl (by rw [hst.len]; omega)
          have HF := Lib.hid hfin; have HP := Lib.hid hp; have HS := Lib.hid hst
          clear hfin hp hst hbl
          go_wp2
          go_end0
          exact ⟨rfl, l, HP.out, HF.out, HS.out⟩
set_option maxRecDepth 100000 in
/-- slices.SortStableFunc, as tree.Canon calls it. -/
theorem sortStable_any (w0 : World) (base n c : Nat) (A : Option Addr) (l0 : List Node) (W : World) (hn : n ≤ 1000000) (h : SortSt w0 base A n c l0 W) :
    Calls Try.prog 68 #[.slice A n c, cmpV] W (SortedRes w0 base A n c l0) := by
  have hs := stable_any w0 base n c A l0 W hn h
  have HS := Lib.hid hs
  clear hs h
  unfold cmpV at HS ⊢
  go_enter Try.func68, Try.ntmps68
  go_wp2_with (go_at_call 89; refine HS.out.mono ?_; rintro e w1 ⟨rfl, hr⟩)
  go_end0
  exact ⟨rfl, hr⟩
end Go.Proofs.Ytdjlchbgdehccaa
