/- slices.insertionSortCmpFunc at nodes, with tree.Canon's comparison: a part of the row is put in order. -/
import Derived.Test.YtdjlchbgdehccaaStable1
import Derived.Lib.Bytealg
import Derived.BigRegion
namespace Go.Proofs.Ytdjlchbgdehccaa
open Go.RowKit


/-- What the comparison says. -/
def cmpN (x y : Node) : Int := Lib.compareBytes (pathL x) (pathL y)
theorem cmpb_lt : ∀ a b : List UInt8, Lib.compareBytes a b < 0 ↔ a < b
  | [], [] => by simp [Lib.compareBytes]
  | [], _ :: _ => by simp [Lib.compareBytes]
  | _ :: _, [] => by simp [Lib.compareBytes]
  | a :: ar, b :: br => by
    rw [Lib.compareBytes, List.cons_lt_cons_iff]
    by_cases h1 : a < b
    · rw [if_pos h1]; simp [h1]
    · rw [if_neg h1]
      by_cases h2 : b < a
      · rw [if_pos h2]
        have h3 : ¬ a = b := fun e => by subst e; exact h1 h2
        simp [h1, h3]
      · rw [if_neg h2, cmpb_lt ar br]
        have h3 : a = b := by
          apply UInt8.toNat_inj.1
          have h4 : ¬ a.toNat < b.toNat := h1
          have h5 : ¬ b.toNat < a.toNat := h2
          omega
        simp [h3]
theorem cmpN_lt (x y : Node) : cmpN x y < 0 ↔ pathL x < pathL y := cmpb_lt _ _
set_option maxRecDepth 100000 in
theorem compareStr_any (a b : ByteArray) (w : World) : Calls Try.prog 90 #[.string a, .string b] w fun e w' => e = .returned (.int .i64 (Lib.compareBytes a.data.toList b.data.toList)) ∧ w' = w := by
  go_enter Try.func90, Try.ntmps90
  go_wp2
  rw [run_callFunc_extern Try.func102 (by kernel_rfl) (by kernel_rfl) (by kernel_rfl) (e := Extern.BytealgCompare.compare) (by kernel_rfl), Lib.run_compareString]
  simp only [Result.andThen]
  rw [Oper.upon_value]
  go_wp2
  go_ret
  exact ⟨rfl, rfl⟩
set_option maxRecDepth 100000 in
theorem scompare_any (a b : ByteArray) (w : World) : Calls Try.prog 70 #[.string a, .string b] w fun e w' => e = .returned (.int .i64 (Lib.compareBytes a.data.toList b.data.toList)) ∧ w' = w := by
  go_enter Try.func70, Try.ntmps70
  go_wp2_with (go_at_call 90; refine (compareStr_any a b _).mono ?_; rintro e w1 ⟨rfl, rfl⟩)
  go_ret
  exact ⟨rfl, rfl⟩
def cmpV : Value := .func (.func 69) #[] #[]
set_option maxRecDepth 100000 in
theorem cmp_any (x y : Node) (w : World) : Calls Try.prog 69 #[.agg #[.string x.path, .int .i64 x.file, .int .i64 x.mode], .agg #[.string y.path, .int .i64 y.file, .int .i64 y.mode]] w fun e w' => e = .returned (.int .i64 (cmpN x y)) ∧ w.grownBy w' none := by
  have hc : Lib.compareBytes x.path.data.toList y.path.data.toList = cmpN x y := rfl
  have HC := Lib.hid hc; clear hc
  have hB := (Blk.new w 29 #[.string x.path, .int .i64 x.file, .int .i64 x.mode]).alloc (.cells #[.string y.path, .int .i64 y.file, .int .i64 y.mode] 29)
  have hC := Blk.new (w.alloc (.cells #[.string x.path, .int .i64 x.file, .int .i64 x.mode] 29)) 29 #[.string y.path, .int .i64 y.file, .int .i64 y.mode]
  have hg := grown_trans (World.grownBy_alloc w (.cells #[.string x.path, .int .i64 x.file, .int .i64 x.mode] 29) none) (World.grownBy_alloc (w.alloc (.cells #[.string x.path, .int .i64 x.file, .int .i64 x.mode] 29)) (.cells #[.string y.path, .int .i64 y.file, .int .i64 y.mode] 29) none)
  rw [World.size_alloc] at hC
  have x0 := hB.cell 0; have y0 := hC.cell 0
  have HG := Lib.hid hg; clear hg
  go_enter Try.func69, Try.ntmps69
  go_wp2_with (go_at_call 70; refine (scompare_any _ _ _).mono ?_; rintro e w1 ⟨rfl, rfl⟩; rw [HC.out])
  go_ret
  exact ⟨rfl, HG.out⟩
theorem mid_get {A B : List Node} {x : Node} {k : Nat} (hk : k = A.length) : (A ++ x :: B)[k]? = some x := by
  subst hk
  rw [List.getElem?_append_right (Nat.le_refl _), Nat.sub_self]; rfl
/-- While one element is put in. -/
structure InsSt (w0 : World) (base : Nat) (A : Option Addr) (n c : Nat) (A0 S1 S2 T : List Node) (x : Node) (W : World) : Prop where
  st : SortSt w0 base A n c (A0 ++ S1 ++ x :: S2 ++ T) W
  srt : SrtN (S1 ++ S2)
  le : ∀ y ∈ S2, leN x y
set_option maxRecDepth 100000 in
set_option maxHeartbeats 4000000 in
theorem insertion_any (w0 : World) (base n c : Nat) (A : Option Addr) (A0 U B : List Node) (a b : Nat) (W : World) (ha : A0.length = a) (hb : b = a + U.length) (hn : n ≤ 1000000) (h : SortSt w0 base A n c (A0 ++ U ++ B) W) :
    Calls Try.prog 100 #[.slice A n c, .int .i64 a, .int .i64 b, cmpV] W fun e W' => e = .returned (.tuple #[]) ∧ ∃ V : List Node, V.Perm U ∧ SrtN V ∧ SortSt w0 base A n c (A0 ++ V ++ B) W' := by
  have hlen := h.len
  simp only [List.length_append] at hlen
  have hbn : b ≤ n := by omega
  have hab : a ≤ b := by omega
  have H := Lib.hid h; have HL := Lib.hid hlen; have HA := Lib.hid ha; have HB := Lib.hid hb
  clear h hlen ha hb
  unfold cmpV
  go_enter Try.func100, Try.ntmps100
  go_wp2
  go_loopw [8] (fun v wr => ∃ (i : Nat) (S T : List Node), v = .int .i64 i ∧ a < i ∧ i ≤ b + 1 ∧ SortSt w0 base A n c (A0 ++ S ++ T ++ B) wr ∧ (S ++ T).Perm U ∧ SrtN S ∧ (S.length = i - a ∨ (T = [] ∧ b < i))) (fun v _ => b + 1 - (intOf v).toNat)
  case atStart =>
    by_cases hU : U = []
    · exact ⟨a + 1, [], [], by go_num, by omega, by omega, by rw [hU] at H; simpa using H.out, by rw [hU]; exact List.Perm.refl _, List.Pairwise.nil, .inr ⟨rfl, by rw [HB.out, hU]; simp⟩⟩
    · obtain ⟨x, t, hx⟩ := List.exists_cons_of_ne_nil hU
      exact ⟨a + 1, [x], t, by go_num, by omega, by omega, by have := H.out; rw [hx] at this; simpa using this, by rw [hx]; exact List.Perm.refl _, List.pairwise_singleton _ _, .inl (by simp)⟩
  case round =>
    obtain ⟨i, S, T, rfl, hai, hib, hst, hp, hs, hl⟩ := hrel
    have hplen := hp.length_eq
    rw [List.length_append] at hplen
    by_cases hlt : i < b
    · have hki : (i : Int) < b := by omega
      have hSl : S.length = i - a := hl.resolve_right (fun h => by omega)
      have hTl : 0 < T.length := by have := HB.out; omega
      obtain ⟨x, T', rfl⟩ := List.exists_cons_of_ne_nil (List.length_pos_iff.1 hTl)
      have h0 : InsSt w0 base A n c A0 S [] (T' ++ B) x wr := ⟨by have := hst; simp only [List.append_assoc, List.cons_append, List.nil_append] at this ⊢; exact this, by rw [List.append_nil]; exact hs, fun y hy => by cases hy⟩
      have H0 := Lib.hid h0; have Hp := Lib.hid hp; have HSl := Lib.hid hSl
      clear h0 hp hSl hst hs hl hplen hTl H
      go_wp2
      go_loopw [9] (fun v wr => ∃ (j : Nat) (S1 S2 : List Node), v = .int .i64 j ∧ a ≤ j ∧ j ≤ i ∧ S1.length = j - a ∧ S1 ++ S2 = S ∧ InsSt w0 base A n c A0 S1 S2 (T' ++ B) x wr) (fun v _ => (intOf v).toNat)
      case atStart => exact ⟨i, S, [], rfl, by omega, Nat.le_refl _, HSl.out, by simp, H0.out⟩
      case round =>
        clear H0
        obtain ⟨j, S1, S2, rfl, haj, hji, hS1, hSS, hI⟩ := hrel
        have hfin : (∀ y ∈ S1, leN y x) → ∃ S' T'' : List Node, SortSt w0 base A n c (A0 ++ S' ++ T'' ++ B) wr ∧ (S' ++ T'').Perm U ∧ SrtN S' ∧ S'.length = i + 1 - a := fun hy => by
          refine ⟨S1 ++ x :: S2, T', ?_, ?_, srt_insert hI.srt hy hI.le, ?_⟩
          · have := hI.st; simp only [List.append_assoc, List.cons_append] at this ⊢; exact this
          · refine List.Perm.trans ?_ Hp.out
            rw [← hSS]
            simp only [List.append_assoc, List.cons_append]
            exact List.Perm.append_left S1 (List.perm_middle (l₁ := S2) (l₂ := T') (a := x)).symm
          · have := congrArg List.length hSS
            rw [List.length_append, HSl.out] at this
            rw [List.length_append, List.length_cons]; omega
        by_cases hja : a < j
        · obtain ⟨jp, rfl⟩ : ∃ jp, j = jp + 1 := ⟨j - 1, by omega⟩
          obtain ⟨S1', y, rfl⟩ : ∃ (S' : List Node) (y : Node), S1 = S' ++ [y] := by
            have hne : S1 ≠ [] := fun e => by rw [e] at hS1; simp at hS1; omega
            exact ⟨S1.dropLast, S1.getLast hne, (List.dropLast_concat_getLast hne).symm⟩
          have hAl : jp = (A0 ++ S1').length := by rw [List.length_append] at hS1 ⊢; simp at hS1; have := HA.out; omega
          have hL : A0 ++ (S1' ++ [y]) ++ x :: S2 ++ (T' ++ B) = (A0 ++ S1') ++ y :: (x :: (S2 ++ (T' ++ B))) := by simp
          have hL2 : A0 ++ (S1' ++ [y]) ++ x :: S2 ++ (T' ++ B) = (A0 ++ S1' ++ [y]) ++ x :: (S2 ++ (T' ++ B)) := by simp
          have hst := hI.st
          have g2 : (A0 ++ (S1' ++ [y]) ++ x :: S2 ++ (T' ++ B))[jp]? = some y := by rw [hL]; exact mid_get hAl
          have g1 : (A0 ++ (S1' ++ [y]) ++ x :: S2 ++ (T' ++ B))[jp + 1]? = some x := by rw [hL2]; exact mid_get (by rw [List.length_append, ← hAl]; rfl)
          have hjn : jp + 1 < n := by have := (List.getElem?_eq_some_iff.1 g1).1; rw [hst.len] at this; exact this
          obtain ⟨g, rfl⟩ : ∃ g, A = some ⟨g, 0, none⟩ := own_some hst.own (by omega)
          have hsrt := hI.srt; have hle := hI.le
          have Hst := Lib.hid hst; have Hsrt := Lib.hid hsrt; have Hle := Lib.hid hle; have G1 := Lib.hid g1; have G2 := Lib.hid g2; have HAl := Lib.hid hAl; have HL1 := Lib.hid hL; have HS1 := Lib.hid hS1; have HSS := Lib.hid hSS; have HFin := Lib.hid hfin
          have hjaz : (a : Int) < (jp : Int) + 1 := by omega
          have hwp : IntKind.i64.wrap (jp : Int) = (jp : Int) := by rw [IntKind.wrap_i64]; omega
          have jz : (jp : Int) + 1 < (n : Int) := by omega
          have jz1 : (jp : Int) < (n : Int) := by omega
          have p0 : (0 : Int) ≤ (jp : Int) + 1 := by omega
          have e0 : ((jp : Int) + 1).toNat = jp + 1 := by omega
          obtain ⟨x0, x1, x2⟩ := hst.cells g1
          obtain ⟨y0, y1, y2⟩ := hst.cells g2
          have hgl : g < wr.heap.size := (own_lt2 hst.own).2.1
          obtain ⟨d, hd⟩ : ∃ d, cmpN x y = d := ⟨_, rfl⟩
          have hc := cmp_any x y
          rw [hd] at hc
          have HC := Lib.hid hc; have HD := Lib.hid hd
          clear hst g1 g2 hAl hL hL2 hI hsrt hle hc hd hS1 hSS hfin
          by_cases hlv : d < 0
          · go_upto_region 4 with (fail)
            refine wp_region_ordB (none) [(0, true), (1, true), (2, true), (3, true), (4, true), (5, true), (6, true), (7, true), (8, true), (9, true), (10, true), (11, true), (12, true), (13, true), (14, false), (15, true), (16, true)] (by kernel_rfl) (by kernel_rfl) fun hG0 => ?_
            repeat (first
              | (refine ord_skipB rfl (by rfl) ?_; simp only [Act.put, List.setIfInBounds_toArray, List.set_cons_zero, List.set_cons_succ])
              | (refine ord_qE rfl (by rfl) ?_; apply Exists.intro; refine ⟨fun w' hc' => ?_, ?_⟩; (focus (go_simp; (try go_bits); (try simp only [↓IntWalk.iteOmega]); with_reducible rfl)); simp only [Act.put, List.setIfInBounds_toArray, List.set_cons_zero, List.set_cons_succ]))
            refine ord_eB rfl fun K hK => ?_
            go_wp2_with (go_at_call 69; refine (HC.out _).mono ?_; rintro e w5 ⟨rfl, hg5⟩)
            have hG1 := grown_trans hG0 (hg5)
            refine hK.out _ _ hG1 ?_
            clear hK K
            repeat (first
              | (refine ord_skipB rfl (by rfl) ?_; simp only [Act.put, List.setIfInBounds_toArray, List.set_cons_zero, List.set_cons_succ])
              | (refine ord_qE rfl (by rfl) ?_; apply Exists.intro; refine ⟨fun w' hc' => ?_, ?_⟩; (focus (go_simp; (try go_bits); (try simp only [↓IntWalk.iteOmega]); with_reducible rfl)); simp only [Act.put, List.setIfInBounds_toArray, List.set_cons_zero, List.set_cons_succ]))
            refine ord_end ?_
            have hs5 := Hst.out.quiet hG1
            have g1 := G1.out; have g2 := G2.out
            have hnext : ((A0 ++ (S1' ++ [y]) ++ x :: S2 ++ (T' ++ B)).set (jp + 1) y).set jp x = A0 ++ S1' ++ x :: (y :: S2) ++ (T' ++ B) := by
              rw [HL1.out, set_pair HAl.out]
              try simp
            obtain ⟨W1, W2, s1, s2, hs2⟩ := hs5.swap g1 g2
            have lx := (hs5.quiet (grown_drew w5 none)).load g1
            have ly := (hs5.quiet (grown_drew w5 none)).load g2
            obtain ⟨cx, hcx⟩ : ∃ zq, Node.list x = zq := ⟨_, rfl⟩
            obtain ⟨cy, hcy⟩ : ∃ zq, Node.list y = zq := ⟨_, rfl⟩
            have lcx : cx.length = 3 := by rw [← hcx]; rfl
            have lcy : cy.length = 3 := by rw [← hcy]; rfl
            rw [hcx] at lx s2
            rw [hcy] at ly s1
            rw [hnext] at hs2
            have HS2 := Lib.hid hs2
            clear hcx hcy hs2 hs5 hnext g1 g2 x0 x1 x2 y0 y1 y2 hgl hG0 hG1
            go_wp2
            have mixed : Try.prog.follows .mixedOrders = true := by kernel_rfl
            have t23 := Try.underlying23
            have t3 := Try.intU
            have u23 := run_underlying Try.underlying23
            have u3 := run_underlying Try.intU
            have aE := Try.nodeAgg; have a23 := Try.nodesAgg; have z23 := Try.nodesSize
            obtain ⟨q, hq⟩ : ∃ q, 3 = q := ⟨3, rfl⟩
            rw [hq] at lx ly s1 s2 lcx lcy
            have zE : ∀ w, (Go.sizeOf 29).run Try.prog w = .ok q w := fun w => by rw [← hq]; exact Try.nodeSize w
            clear hq
            generalize hP : Try.prog = P at mixed t23 t3 u23 u3 aE zE a23 z23 lx ly s1 s2 ⊢
            go_big_region_o
            subst hP
            clear mixed t23 t3 u23 u3 aE zE a23 z23 lx ly s1 s2 lcx lcy
            all_goals go_wp2
            go_roundw
            case rel =>
              refine ⟨jp, S1', y :: S2, by first | rfl | go_num | (congr 1; omega), by omega, by omega, ?_, ?_, HS2.out, ?_, ?_⟩
              · have := HS1.out; rw [List.length_append] at this; simp at this; omega
              · rw [← HSS.out]; simp
              · have := Hsrt.out; simpa using this
              · intro z hz
                rcases List.mem_cons.1 hz with rfl | hz
                · exact leN_of_lt ((cmpN_lt _ _).1 (by rw [HD.out]; exact hlv))
                · exact Hle.out z hz
            case measure => simp [intOf] <;> omega
          · go_upto_region 4 with (fail)
            refine wp_region_ordB (none) [(0, true), (1, true), (2, true), (3, true), (4, true), (5, true), (6, true), (7, true), (8, true), (9, true), (10, true), (11, true), (12, true), (13, true), (14, false), (15, true), (16, true)] (by kernel_rfl) (by kernel_rfl) fun hG0 => ?_
            repeat (first
              | (refine ord_skipB rfl (by rfl) ?_; simp only [Act.put, List.setIfInBounds_toArray, List.set_cons_zero, List.set_cons_succ])
              | (refine ord_qE rfl (by rfl) ?_; apply Exists.intro; refine ⟨fun w' hc' => ?_, ?_⟩; (focus (go_simp; (try go_bits); (try simp only [↓IntWalk.iteOmega]); with_reducible rfl)); simp only [Act.put, List.setIfInBounds_toArray, List.set_cons_zero, List.set_cons_succ]))
            refine ord_eB rfl fun K hK => ?_
            go_wp2_with (go_at_call 69; refine (HC.out _).mono ?_; rintro e w5 ⟨rfl, hg5⟩)
            have hG1 := grown_trans hG0 (hg5)
            refine hK.out _ _ hG1 ?_
            clear hK K
            repeat (first
              | (refine ord_skipB rfl (by rfl) ?_; simp only [Act.put, List.setIfInBounds_toArray, List.set_cons_zero, List.set_cons_succ])
              | (refine ord_qE rfl (by rfl) ?_; apply Exists.intro; refine ⟨fun w' hc' => ?_, ?_⟩; (focus (go_simp; (try go_bits); (try simp only [↓IntWalk.iteOmega]); with_reducible rfl)); simp only [Act.put, List.setIfInBounds_toArray, List.set_cons_zero, List.set_cons_succ]))
            refine ord_end ?_
            obtain ⟨S', T'', q1, q2, q3, q4⟩ := HFin.out (srt_last (by have := Hsrt.out; exact srt_l this) (fun h => by have h2 := (cmpN_lt _ _).2 h; rw [HD.out] at h2; omega))
            have q5 := q1.quiet hG1
            have Q5 := Lib.hid q5; have Q2 := Lib.hid q2; have Q3 := Lib.hid q3; have Q4 := Lib.hid q4
            clear q1 q2 q3 q4 q5 x0 x1 x2 y0 y1 y2 hgl hG0 hG1
            go_wp2
            go_roundw
            case rel => exact ⟨i + 1, S', T'', by go_num, by omega, by omega, Q5.out, Q2.out, Q3.out, .inl Q4.out⟩
            case measure => simp [intOf]; omega
        · obtain rfl : j = a := by omega
          have hjaz : ¬ (j : Int) < (j : Int) := by omega
          have hS0 : S1 = [] := List.length_eq_zero_iff.1 (by omega)
          obtain ⟨S', T'', q1, q2, q3, q4⟩ := hfin (fun y hy => by rw [hS0] at hy; cases hy)
          have Q1 := Lib.hid q1; have Q2 := Lib.hid q2; have Q3 := Lib.hid q3; have Q4 := Lib.hid q4
          clear q1 q2 q3 q4 hfin hI hSS hS1
          go_upto_region 4 with (fail)
          go_big_region
          have q5 := Q1.out.quiet (grown_drew wr none)
          have Q5 := Lib.hid q5
          clear q5
          go_wp2
          go_roundw
          case rel => exact ⟨i + 1, S', T'', by go_num, by omega, by omega, Q5.out, Q2.out, Q3.out, .inl Q4.out⟩
          case measure => simp [intOf]; omega
    · have hki : ¬ (i : Int) < b := by omega
      have hT : T = [] := by
        rcases hl with h | h
        · have := HB.out; exact List.length_eq_zero_iff.1 (by omega)
        · exact h.1
      subst hT
      rw [List.append_nil] at hp hst
      have Hst := Lib.hid hst; have Hp := Lib.hid hp; have Hs := Lib.hid hs
      clear hst hp hs hl hplen
      go_wp2
      go_end0
      exact ⟨rfl, S, Hp.out, Hs.out, by have h := Hst.out; rw [List.append_assoc] at h; exact h⟩
end Go.Proofs.Ytdjlchbgdehccaa
