/- toll.Most of two small tolls, whichever is the greater; shuntref1.greater and Most. The trees that Trace tells weigh what Curve tells, for a list of any length; the last is the tree that Run tells. shuntref1.Most, shuntref7.Peak and model.Peak: the greatest of each part. -/
import Derived.Test.YthmeffpickejkaaGreatNum
import Derived.Test.YthmeffpickejkaaGreatTraces

namespace Go.Proofs.YthmeffpickejkaaGreat
open Go.RowKit

theorem run_maxG (ts : Array TypeId) (t : TypeId) (a b : Nat) (ha : a < 1073741824) (hb : b < 1073741824) (w : World) : (Builtin.max_ ts t #[.float .f64 (N a), .float .f64 (N b)]).run Tryz.prog w = .ok (.float .f64 (N (max a b))) w := by
  have h0 := N_order a b (by omega) (by omega)
  rcases Nat.lt_trichotomy a b with h | h | h
  · have h2 : compare (a : Int) b = .lt := Int.compare_eq_lt.2 (by omega)
    rw [h2] at h0
    rw [Nat.max_eq_right (by omega)]
    simp [Builtin.max_, Builtin.max2, h0]
  · subst h
    have h2 : compare (a : Int) a = .eq := Int.compare_eq_eq.2 rfl
    rw [h2] at h0
    rw [Nat.max_self]
    simp [Builtin.max_, Builtin.max2, h0]
  · have h2 : compare (a : Int) b = .gt := Int.compare_eq_gt.2 (by omega)
    rw [h2] at h0
    rw [Nat.max_eq_left (by omega)]
    simp [Builtin.max_, Builtin.max2, h0]
theorem most1G (a b : Nat) (ha : a < 1073741824) (hb : b < 1073741824) (w : World) : Calls Tryz.prog 38 #[.float .f64 (N a), .float .f64 (N b)] w fun r w' => r = .returned (.float .f64 (N (max a b))) ∧ w' = w := by
  have h := fun ts t w => run_maxG ts t a b ha hb w
  go_enter Tryz.func38, Tryz.ntmps38
  go_wp2
  go_ret
  exact ⟨rfl, rfl⟩
set_option maxHeartbeats 1000000 in
theorem eachG (a b d e : Nat) (ha : a < 1073741824) (hb : b < 1073741824) (hd : d < 1073741824) (he : e < 1073741824) (w : World) :
    Calls Tryz.prog 37 #[.complex .f64 (N a) (N b), .complex .f64 (N d) (N e), .func (.func 38) #[] #[]] w (TollRes (max a d) (max b e) w) := by
  obtain ⟨m, hm⟩ : ∃ m, max a d = m := ⟨_, rfl⟩
  obtain ⟨n, hn⟩ : ∃ n, max b e = n := ⟨_, rfl⟩
  have c1 := most1G a d ha hd
  have c2 := most1G b e hb he
  have hm2 : m < 1073741824 := by omega
  have hn2 : n < 1073741824 := by omega
  rw [hm] at c1 ⊢
  rw [hn] at c2 ⊢
  have C1 := Lib.hid c1; have C2 := Lib.hid c2
  clear c1 c2 hm hn
  go_enter Tryz.func37, Tryz.ntmps37
  go_wp2_with (first | (go_at_call 58; refine (is_two a b d e (by omega) (by omega) (by omega) (by omega) _).mono ?_; rintro e w1 ⟨rfl, rfl⟩) | (go_at_call 38; (first | ((with_reducible refine (C1.out _).mono ?_); rintro e w1 ⟨rfl, rfl⟩) | ((with_reducible refine (C2.out _).mono ?_); rintro e w1 ⟨rfl, rfl⟩))) | (go_at_call 59; refine (told_any m n (by omega) (by omega) _).mono ?_; rintro e w1 ⟨rfl, hb1⟩))
  go_ret2
  exact ⟨rfl, ((Below.refl _ _).alloc (Nat.le_refl _) _).trans (hb1.mono (by simp))⟩
theorem mostG (a b d e : Nat) (ha : a < 1073741824) (hb : b < 1073741824) (hd : d < 1073741824) (he : e < 1073741824) (w : World) :
    Calls Tryz.prog 22 #[.complex .f64 (N a) (N b), .complex .f64 (N d) (N e)] w (TollRes (max a d) (max b e) w) := by
  go_enter Tryz.func22, Tryz.ntmps22
  go_wp2_with (go_at_call 37; refine (eachG a b d e ha hb hd he _).mono ?_; rintro e w1 ⟨rfl, hb1⟩)
  go_ret2
  exact ⟨rfl, hb1⟩
theorem greater_any (a b : Nat) (w : World) : Calls Tryz.prog 50 #[.int .i64 a, .int .i64 b] w fun e w' => e = .returned (.int .i64 (max a b : Nat)) ∧ w' = w := by
  by_cases h : b < a
  · have h1 : (b : Int) < a := by omega
    have h2 : max a b = a := by omega
    rw [h2]
    go_enter Tryz.func50, Tryz.ntmps50
    go_wp2
    go_ret
    exact ⟨rfl, rfl⟩
  · have h1 : ¬ (b : Int) < a := by omega
    have h2 : max a b = b := by omega
    rw [h2]
    go_enter Tryz.func50, Tryz.ntmps50
    go_wp2
    go_ret
    exact ⟨rfl, rfl⟩
end Go.Proofs.YthmeffpickejkaaGreat

namespace Go.Proofs.YthmeffpickejkaaGreat
open Go.RowKit

/-- What a contract promises has come to be, for one. -/
theorem calls_some {P : Program} {f : FuncId} {args : Array Value} {w : World} {R : Ending → World → Prop} (h : Calls P f args w R) : ∃ e w', R e w' := by
  obtain ⟨e, w', _, hr, _⟩ := h []
  exact ⟨e, w', hr⟩
/-- Each world on the way can be told. -/
def Tellable (sd : List ByteArray) : List Cmd → PW → Prop
  | [], _ => True
  | c :: cs, M => doE M c sd = 0 → (∃ u es, TellsM (doM M c sd) u es) ∧ Tellable sd cs (doM M c sd)
theorem wgt_exact {u v : TV} {es fs : List ByteArray} {w w' : World} (hu : TreeD w u es) (hv : TreeD w' v fs) (hl : looseE v = 0) (hx : exactB u v es fs = true) : wgtB u = wgtB v ∧ wgtI u = wgtI v := by
  have hds := (exact_parts hx).2.2
  subst hds
  obtain ⟨e1, e2⟩ := lent_same hu hv hx
  obtain ⟨a1, a2⟩ := open_weight hu (e1.trans hl)
  obtain ⟨b1, b2⟩ := open_weight hv hl
  rw [a1, a2, b1, b2, e2]
  exact ⟨rfl, rfl⟩
theorem tells_tree {M : PW} {u : TV} {es : List ByteArray} (h : TellsM M u es) : ∃ w, TreeD w u es := by
  obtain ⟨b, w, S, hT, rfl⟩ := h
  exact ⟨w, hT.tree⟩
def lastOf (p : TV × List ByteArray) : List (TV × List ByteArray) → TV × List ByteArray
  | [] => p
  | q :: l => lastOf q l
theorem chain_gen (sd : List ByteArray) : ∀ (cs : List Cmd) (p : TV × List ByteArray) (tl : List (TV × List ByteArray)) (E : Int) (M : PW) (k : Nat), looseE p.1 = 0 → (∃ w, TreeD w p.1 p.2) → SameV (openM p.1 p.2) M → WOkP M → Tellable sd cs M → ChainT sd cs p tl E →
    tl.map (fun q => (wgtB q.1, wgtI q.1)) = curveT sd cs M ∧ (∀ q ∈ tl, Fit q.1) ∧ E = (runG sd cs M k).2.2 ∧ (runG sd cs M k).2.1 = k + tl.length ∧ looseE (lastOf p tl).1 = 0 ∧ SameV (openM (lastOf p tl).1 (lastOf p tl).2) (runG sd cs M k).1
  | [], p, tl, E, M, k, hl, hT, hV, hM, hTl, hc => by
    obtain ⟨rfl, rfl⟩ := hc
    exact ⟨rfl, (fun q hq => nomatch hq), rfl, rfl, hl, hV⟩
  | c :: cs, p, tl, E, M, k, hl, hT, hV, hM, hTl, hc => by
    obtain ⟨w, hT⟩ := hT
    have hP := open_ok hT hl
    have hD : DoE p.1 p.2 c sd = doE M c sd := by unfold DoE; rw [if_pos hl]; exact hV.doE hP.inv hM.inv c sd
    rw [ChainT] at hc
    rw [curveT, runG]
    by_cases hE : doE M c sd = 0
    · rw [if_pos (hD.trans hE)] at hc
      rw [if_pos hE, if_pos hE]
      obtain ⟨q, rest, rfl, hq, hr⟩ := hc
      obtain ⟨⟨v, fs, hv⟩, hTl2⟩ := hTl hE
      have hN := hP.do c sd
      have hM2 := hM.do c sd
      have hV2 := hV.do hP hM c sd
      obtain ⟨f1, f2⟩ := fit_told hN hq
      obtain ⟨o1, o2⟩ := told_opened hN hq
      have ho := chain_gen sd cs q rest E (doM M c sd) (k + 1) o1 (tells_tree hq) (o2.trans hV2) hM2 hTl2 hr
      obtain ⟨r1, r2, r3, r4, r5, r6⟩ := ho
      have hx := told_exactB hN hM2 hV2 hq hv
      obtain ⟨wq, hwq⟩ := tells_tree hq
      obtain ⟨wv, hwv⟩ := tells_tree hv
      have hlv : looseE v = 0 := (told_opened hM2 hv).1
      obtain ⟨g1, g2⟩ := wgt_exact hwq hwv hlv hx
      obtain ⟨m1, m2⟩ := told_weight hM2 hv
      refine ⟨?_, fun y hy => ?_, r3, ?_, r5, r6⟩
      · rw [List.map_cons, r1, g1, g2, m1, m2]
        rfl
      · rcases List.mem_cons.1 hy with rfl | hy
        · exact f1
        · exact r2 y hy
      · rw [r4, List.length_cons]
        omega
    · rw [if_neg (by rw [hD]; exact hE)] at hc
      rw [if_neg hE, if_neg hE]
      obtain ⟨rfl, rfl⟩ := hc
      exact ⟨rfl, (fun q hq => nomatch hq), hD, rfl, hl, hV⟩
theorem tellable_of (sd : List ByteArray) : ∀ (cs : List Cmd) (M : PW) (j : Nat), (∀ k, k ≤ cs.length → ∃ u es, TellsM (runG sd (cs.take k) M j).1 u es) → Tellable sd cs M
  | [], _, _, _ => trivial
  | c :: cs, M, j, H => fun hE => by
    refine ⟨?_, tellable_of sd cs (doM M c sd) (j + 1) fun k hk => ?_⟩
    · obtain ⟨u, es, h⟩ := H 1 (by simp)
      rw [List.take_succ_cons, List.take_zero, runG, if_pos hE] at h
      exact ⟨u, es, h⟩
    · obtain ⟨u, es, h⟩ := H (k + 1) (by simp; omega)
      rw [List.take_succ_cons, runG, if_pos hE] at h
      exact ⟨u, es, h⟩
theorem tellable_run (t : TV) (ds : List ByteArray) (cs : List Cmd) (hco : ∀ c ∈ cs, OpOk c) (A : Option Addr) (n cap : Nat) (SA : Option Addr) (sn sc : Nat) (ss : List SC) (sd : List ByteArray) (w : World) (h : TreeD w t ds) (hl : looseE t = 0) (hA : Sl w w.heap.size 5 A n (cs.flatMap Cmd.list)) (hn : cs.length = n) (hn4 : n ≤ 4096) (hS : StockAt w SA sn ss sd) : Tellable sd cs (openM t ds) :=
  tellable_of sd cs (openM t ds) 0 fun k hk => by
    have hA' : Sl w w.heap.size 5 A k ((cs.take k).flatMap Cmd.list) := by
      have h := hA.first (k := k) (by omega)
      rw [flat_take (f := Cmd.list) (fun _ => rfl)] at h
      exact h
    obtain ⟨e, w', u, S, _, hT, _⟩ := calls_some (Run_any t ds (cs.take k) (fun x hx => hco x (List.mem_of_mem_take hx)) A k cap SA sn sc ss sd w h hA' (by rw [List.length_take]; omega) (by omega) hS)
    have e : runR t ds (cs.take k) sd = runG sd (cs.take k) (openM t ds) 0 := by unfold runR; rw [if_pos hl]
    rw [e] at hT
    exact ⟨u, _, hT.tells⟩
/-- All of it, from a tree that is loose. -/
theorem chain_all {t : TV} {ds sd : List ByteArray} {w w' : World} (hT : TreeD w t ds) (hl : looseE t = 0) {cs : List Cmd} {p0 : TV × List ByteArray} {tl : List (TV × List ByteArray)} {E : Int} (h0 : TreeD w' p0.1 p0.2) (hx : exactB p0.1 t p0.2 ds = true) (hTl : Tellable sd cs (openM t ds)) (hc : ChainT sd cs p0 tl E) :
    (p0 :: tl).map (fun p => (wgtB p.1, wgtI p.1)) = curveR t ds cs sd ∧ (∀ p ∈ p0 :: tl, Fit p.1) ∧ E = (runR t ds cs sd).2.2 ∧ (runR t ds cs sd).2.1 = tl.length ∧ looseE (lastOf p0 tl).1 = 0 ∧ SameV (openM (lastOf p0 tl).1 (lastOf p0 tl).2) (runR t ds cs sd).1 := by
  have hds := (exact_parts hx).2.2
  rw [hds] at hx h0
  obtain ⟨e1, e2⟩ := lent_same h0 hT hx
  have hl0 : looseE p0.1 = 0 := e1.trans hl
  obtain ⟨w1, w2⟩ := open_weight h0 hl0
  have hM := open_ok hT hl
  have hV : SameV (openM p0.1 p0.2) (openM t ds) := by rw [hds, e2]; exact SameV.refl _
  obtain ⟨r1, r2, r3, r4, r5, r6⟩ := chain_gen sd cs p0 tl E (openM t ds) 0 hl0 ⟨w', by rw [hds]; exact h0⟩ hV hM hTl hc
  have e : runR t ds cs sd = runG sd cs (openM t ds) 0 := by unfold runR; rw [if_pos hl]
  rw [e]
  refine ⟨?_, fun p hp => ?_, r3, by rw [r4]; omega, r5, r6⟩
  · unfold curveR
    rw [if_pos hl, List.map_cons, r1, w1, w2, e2]
    rfl
  · rcases List.mem_cons.1 hp with rfl | hp
    · exact fit_loose h0 hl0
    · exact r2 p hp
end Go.Proofs.YthmeffpickejkaaGreat

namespace Go.Proofs.YthmeffpickejkaaGreat
open Go.RowKit

def maxP (a b : Nat × Nat) : Nat × Nat := (max a.1 b.1, max a.2 b.2)
theorem maxP_self (a : Nat × Nat) : maxP a a = a := by unfold maxP; simp
set_option maxRecDepth 100000 in
set_option maxHeartbeats 4000000 in
theorem rmost_any (a b c d : Nat) (w : World) : Calls Tryz.prog 31 #[tollV a b, tollV c d] w fun e w' => e = .returned (tollV (max a c : Nat) (max b d : Nat)) ∧ Below w.heap.size w w' := by
  obtain ⟨m, hm⟩ : ∃ m, max a c = m := ⟨_, rfl⟩
  obtain ⟨n, hn⟩ : ∃ n, max b d = n := ⟨_, rfl⟩
  have c1 := greater_any a c
  have c2 := greater_any b d
  rw [hm] at c1 ⊢
  rw [hn] at c2 ⊢
  have C1 := Lib.hid c1; have C2 := Lib.hid c2
  clear c1 c2 hm hn
  have hA := ((Blk.new w 48 #[.int .i64 a, .int .i64 b]).alloc (.cells #[.int .i64 c, .int .i64 d] 48)).alloc (.cells #[.int .i64 0, .int .i64 0] 48)
  have hB := (Blk.new (w.alloc (.cells #[.int .i64 a, .int .i64 b] 48)) 48 #[.int .i64 c, .int .i64 d]).alloc (.cells #[.int .i64 0, .int .i64 0] 48)
  have hR := Blk.new ((w.alloc (.cells #[.int .i64 a, .int .i64 b] 48)).alloc (.cells #[.int .i64 c, .int .i64 d] 48)) 48 #[.int .i64 0, .int .i64 0]
  have hb := (((Below.refl w.heap.size w).alloc (Nat.le_refl _) (.cells #[.int .i64 a, .int .i64 b] 48)).alloc (by simp) (.cells #[.int .i64 c, .int .i64 d] 48)).alloc (by simp; omega) (.cells #[.int .i64 0, .int .i64 0] 48)
  simp only [World.size_alloc] at hB hR
  unfold tollV
  go_enter Tryz.func31, Tryz.ntmps31
  go_upto_region 1 with (fail)
  obtain ⟨W0, hW0⟩ : ∃ W, (((w.alloc (.cells #[.int .i64 a, .int .i64 b] 48)).alloc (.cells #[.int .i64 c, .int .i64 d] 48)).alloc (.cells #[.int .i64 0, .int .i64 0] 48)) = W := ⟨_, rfl⟩
  rw [hW0] at hA hB hR hb ⊢
  clear hW0
  have a0 := hA.cell 0; have a1 := hA.cell 1; have b0 := hB.cell 0; have b1 := hB.cell 1
  have hAl := hA.lt; have hBl := hB.lt; have hRl := hR.lt
  refine wp_region_ordG (none) [(0, true), (1, true), (2, true), (3, true), (5, true), (6, true), (7, true), (8, true), (4, false), (9, false), (10, true)] 11 (by kernel_rfl) (by kernel_rfl) fun hG0 => ?_
  repeat (first
    | (refine ord_skipB rfl (by rfl) ?_; simp only [Act.put, List.setIfInBounds_toArray, List.set_cons_zero, List.set_cons_succ])
    | (refine ord_qE rfl (by rfl) ?_; apply Exists.intro; refine ⟨fun w' hc' => ?_, ?_⟩; (focus (go_simp; (try go_bits); (try simp only [↓IntWalk.iteOmega]); with_reducible rfl)); simp only [Act.put, List.setIfInBounds_toArray, List.set_cons_zero, List.set_cons_succ]))
  refine ord_eB rfl fun K hK => ?_
  go_wp2_with (go_at_call 50; refine (C1.out _).mono ?_; rintro e w1 ⟨rfl, hw⟩; rw [hw]; clear hw)
  have hG1 := grown_trans hG0 (World.grownBy.refl _ _)
  refine hK.out _ _ hG1 ?_
  clear hK K
  repeat (first
    | (refine ord_skipB rfl (by rfl) ?_; simp only [Act.put, List.setIfInBounds_toArray, List.set_cons_zero, List.set_cons_succ])
    | (refine ord_qE rfl (by rfl) ?_; apply Exists.intro; refine ⟨fun w' hc' => ?_, ?_⟩; (focus (go_simp; (try go_bits); (try simp only [↓IntWalk.iteOmega]); with_reducible rfl)); simp only [Act.put, List.setIfInBounds_toArray, List.set_cons_zero, List.set_cons_succ]))
  refine ord_eB rfl fun K hK => ?_
  go_wp2_with (go_at_call 50; refine (C2.out _).mono ?_; rintro e w2 ⟨rfl, hw⟩; rw [hw]; clear hw)
  have hG2 := grown_trans hG1 (World.grownBy.refl _ _)
  refine hK.out _ _ hG2 ?_
  clear hK K
  repeat (first
    | (refine ord_skipB rfl (by rfl) ?_; simp only [Act.put, List.setIfInBounds_toArray, List.set_cons_zero, List.set_cons_succ])
    | (refine ord_qE rfl (by rfl) ?_; apply Exists.intro; refine ⟨fun w' hc' => ?_, ?_⟩; (focus (go_simp; (try go_bits); (try simp only [↓IntWalk.iteOmega]); with_reducible rfl)); simp only [Act.put, List.setIfInBounds_toArray, List.set_cons_zero, List.set_cons_succ]))
  have hR2 := hR.grown hG2 (by simp)
  have hb2 := hb.trans (below_grown hG2 hb.size (fun g e => by cases e))
  have hz := hb2.size
  refine ord_tail rfl fun K hK => ?_
  go_wp2_with (refine wpList_store_blk rfl 48 (.tmp 4) (.tmp 15) rfl hR2 #[.int .i64 m, .int .i64 n] rfl rfl (by kernel_rfl) rfl (by simp [Value.oneCell']) ?_; intro w9 hB9 hg9 hs9)
  refine hK.out _ _ ?_
  clear hK K
  go_wp2
  exact ret_cell1 rfl rfl (load_blk hB9 Tryz.underlying48 rfl (by kernel_rfl)) rfl ⟨rfl, hb2.trans (below_grown hg9 hz (fun g e => by injection e with e; omega))⟩
/-- The weight of a tree with its bytes. -/
def wgT (p : TV × List ByteArray) : Nat × Nat := (wgtB p.1, wgtI p.1)
theorem max_small {a : Nat × Nat} {l : List (Nat × Nat)} (ha : a.1 < 1000000000 ∧ a.2 < 1000000000) (hl : ∀ x ∈ l, x.1 < 1000000000 ∧ x.2 < 1000000000) : (l.foldl maxP a).1 < 1000000000 ∧ (l.foldl maxP a).2 < 1000000000 := by
  induction l generalizing a with
  | nil => exact ha
  | cons x l ih =>
    rw [List.foldl_cons]
    refine ih ?_ fun y hy => hl y (List.mem_cons_of_mem _ hy)
    have hx := hl x List.mem_cons_self
    unfold maxP
    simp only
    omega
theorem max_pos {a : Nat × Nat} {l : List (Nat × Nat)} (ha : 0 < a.1 ∧ 0 < a.2) : 0 < (l.foldl maxP a).1 ∧ 0 < (l.foldl maxP a).2 := by
  induction l generalizing a with
  | nil => exact ha
  | cons x l ih =>
    rw [List.foldl_cons]
    refine ih ?_
    unfold maxP
    simp only
    omega
def PeakAt (w : World) (pg : Nat) (p0 : TV × List ByteArray) (rest : List (TV × List ByteArray)) (i : Value) (wr : World) : Prop :=
  ∃ (k a b : Nat), i = .int .i64 k ∧ 1 ≤ k ∧ k ≤ rest.length + 1 ∧ ((rest.take (k - 1)).map wgT).foldl maxP (wgT p0) = (a, b) ∧ Blk wr pg 48 #[.int .i64 a, .int .i64 b] ∧ Blk wr w.heap.size 48 #[.int .i64 0, .int .i64 0] ∧ Below w.heap.size w wr
theorem peak_step {rest : List (TV × List ByteArray)} {p0 x : TV × List ByteArray} {k a b : Nat} (hk : 1 ≤ k) (hx : (p0 :: rest)[k]? = some x) (h : ((rest.take (k - 1)).map wgT).foldl maxP (wgT p0) = (a, b)) : ((rest.take (k + 1 - 1)).map wgT).foldl maxP (wgT p0) = (max a (wgtB x.1), max b (wgtI x.1)) := by
  obtain ⟨j, rfl⟩ : ∃ j, k = j + 1 := ⟨k - 1, by omega⟩
  rw [List.getElem?_cons_succ] at hx
  rw [Nat.add_sub_cancel] at h ⊢
  rw [List.take_add_one, hx, List.map_append, List.foldl_append, h]
  rfl
set_option maxRecDepth 100000 in
set_option maxHeartbeats 8000000 in
theorem rpeak_any (p0 : TV × List ByteArray) (rest : List (TV × List ByteArray)) (A : Option Addr) (n c : Nat) (w : World) (hA : Sl w w.heap.size 2 A n ((p0 :: rest).flatMap treeC)) (hn : rest.length + 1 = n) (hn4 : n ≤ 100000) (hT : ∀ p ∈ p0 :: rest, TreeD w p.1 p.2 ∧ Fit p.1) :
    Calls Tryz.prog 15 #[.slice A n c] w fun e w' => e = .returned (tollV (((rest.map wgT).foldl maxP (wgT p0)).1 : Nat) (((rest.map wgT).foldl maxP (wgT p0)).2 : Nat)) ∧ Below w.heap.size w w' := by
  have hnn : (p0 :: rest).length = n := hn
  obtain ⟨R, hR⟩ : ∃ R, (rest.map wgT).foldl maxP (wgT p0) = R := ⟨_, rfl⟩
  rw [hR]
  have HR := Lib.hid hR
  have HA := Lib.hid hA; have HN := Lib.hid hnn; have HT := Lib.hid hT
  clear hA hnn hT hR
  have hW : ∀ p ∈ p0 :: rest, ∀ W, Below w.heap.size w W → Calls Tryz.prog 13 #[.agg #[.slice p.1.NA p.1.nn p.1.nc, .slice p.1.FA p.1.fn p.1.fc]] W fun e w' => e = .returned (tollV (wgtB p.1 : Nat) (wgtI p.1 : Nat)) ∧ Below W.heap.size W w' := fun p hp W hB => by
    obtain ⟨h1, f1, f2, f3, _⟩ := HT.out p hp
    exact rweight_any p.1 W (h1.tree.keep hB) f1 f2 f3
  have HW := Lib.hid hW; clear hW
  have hb := (Below.refl w.heap.size w).alloc (Nat.le_refl _) (.cells #[.int .i64 0, .int .i64 0] 48)
  have hO := Blk.new w 48 #[.int .i64 0, .int .i64 0]
  obtain ⟨tb, to', y, rfl, htb, hp, hcp⟩ := (HA.out.below hb (Nat.le_refl _)).get (f := treeC) (fun _ => rfl) HN.out (show 0 < n by omega)
  obtain rfl : p0 = y := by simpa using hp
  have t0 := hcp 0 _ rfl
  have t1 := hcp 1 _ rfl
  simp only [Nat.add_zero, Nat.zero_mul] at t0 t1
  have hn0 : (0 : Int) < n := by omega
  have htw : tb < (w.alloc (.cells #[.int .i64 0, .int .i64 0] 48)).heap.size := by simp; omega
  clear hp hcp
  go_enter Tryz.func15, Tryz.ntmps15
  go_upto_region 2 with (first | (go_at_call 13; refine (HW.out p0 List.mem_cons_self _ hb).mono ?_; rintro e w1 ⟨rfl, hb1⟩; unfold tollV) | (refine wpList_store_blk rfl 48 (.tmp 3) (.tmp 8) rfl (Blk.new w1 48 _) #[.int .i64 (wgtB p0.1 : Nat), .int .i64 (wgtI p0.1 : Nat)] rfl rfl (by kernel_rfl) rfl (by simp [Value.oneCell']) ?_; intro w2 hP2 hg2 hs2))
  have hs1 := hb1.size
  have hO1 := ((hO.below hb1 hO.lt).alloc (.cells #[.int .i64 0, .int .i64 0] 48)).grown hg2 (fun e => by injection e with e; simp at hs1; omega)
  have hb2 := ((hb.trans (hb1.mono (by simp))).alloc (by simp at hs1; omega) (.cells #[.int .i64 0, .int .i64 0] 48)).trans (below_grown hg2 (by simp at hs1 ⊢; omega) (fun g e => by simp at hs1; injection e with e; omega))
  have hpg : w.heap.size < w1.heap.size := by simp at hs1; omega
  obtain ⟨pg, hpe⟩ : ∃ g, w1.heap.size = g := ⟨_, rfl⟩
  rw [hpe] at hP2 hpg ⊢
  have H0 := Lib.hid (show PeakAt w pg p0 rest (.int .i64 1) w2 from ⟨1, wgtB p0.1, wgtI p0.1, rfl, Nat.le_refl _, by omega, rfl, hP2, hO1, hb2⟩)
  clear hs1 hO1 hb2 hpe hP2 hg2 hs2 hb1 hO hb t0 t1 htw hn0
  go_wp2
  go_loopw [4] (fun v wr => PeakAt w pg p0 rest v wr) (fun v _ => n + 1 - (intOf v).toNat)
  case atStart => exact H0.out
  case round =>
  clear H0
  obtain ⟨k, a, b, rfl, hk1, hk2, hf, hP, hO, hb⟩ := hrel
  have Hf := Lib.hid hf; clear hf
  by_cases hlt : k < n
  · have hki : (k : Int) < n := by omega
    obtain ⟨tb2, to2, x, e2, htb2, hp, hcp⟩ := (HA.out.below hb (Nat.le_refl _)).get (f := treeC) (fun _ => rfl) HN.out hlt
    obtain ⟨rfl, rfl⟩ : tb = tb2 ∧ to' = to2 := by injection e2 with e2; injection e2 with e3 e4; exact ⟨e3, e4⟩
    have t0 := hcp 0 _ rfl
    have t1 := hcp 1 _ rfl
    simp only [Nat.add_zero] at t0 t1
    have hxm := List.mem_of_getElem? hp
    have Hst := Lib.hid (peak_step hk1 hp Hf.out)
    have p0' := hP.cell 0; have p1' := hP.cell 1
    have hPl := hP.lt
    have htl := Nat.lt_of_lt_of_le htb2 hb.size
    clear hp hcp e2
    go_upto_region 5 with (fail)
    refine wp_region_ordG (none) [(0, true), (1, true), (2, true), (3, true), (4, true), (5, false), (6, false)] 7 (by kernel_rfl) (by kernel_rfl) fun hG0 => ?_
    repeat (first
      | (refine ord_skipB rfl (by rfl) ?_; simp only [Act.put, List.setIfInBounds_toArray, List.set_cons_zero, List.set_cons_succ])
      | (refine ord_qE rfl (by rfl) ?_; apply Exists.intro; refine ⟨fun w' hc' => ?_, ?_⟩; (focus (go_simp; (try go_bits); (try simp only [↓IntWalk.iteOmega]); with_reducible rfl)); simp only [Act.put, List.setIfInBounds_toArray, List.set_cons_zero, List.set_cons_succ]))
    refine ord_eB rfl fun K hK => ?_
    go_wp2_with (go_at_call 13; refine (HW.out x hxm _ (hb.trans (below_grown hG0 hb.size (fun g e => by cases e)))).mono ?_; rintro e w3 ⟨rfl, hb3⟩)
    have hG1 := grown_trans hG0 (grown_below hb3 (Nat.le_refl _))
    refine hK.out _ _ hG1 ?_
    clear hK K
    repeat (first
      | (refine ord_skipB rfl (by rfl) ?_; simp only [Act.put, List.setIfInBounds_toArray, List.set_cons_zero, List.set_cons_succ])
      | (refine ord_qE rfl (by rfl) ?_; apply Exists.intro; refine ⟨fun w' hc' => ?_, ?_⟩; (focus (go_simp; (try go_bits); (try simp only [↓IntWalk.iteOmega]); with_reducible rfl)); simp only [Act.put, List.setIfInBounds_toArray, List.set_cons_zero, List.set_cons_succ]))
    refine ord_eB rfl fun K hK => ?_
    go_wp2_with (go_at_call 31; refine (rmost_any a b (wgtB x.1) (wgtI x.1) _).mono ?_; rintro e w4 ⟨rfl, hb4⟩)
    have hG2 := grown_trans hG1 (grown_below hb4 (Nat.le_refl _))
    refine hK.out _ _ hG2 ?_
    clear hK K
    repeat (first
      | (refine ord_skipB rfl (by rfl) ?_; simp only [Act.put, List.setIfInBounds_toArray, List.set_cons_zero, List.set_cons_succ])
      | (refine ord_qE rfl (by rfl) ?_; apply Exists.intro; refine ⟨fun w' hc' => ?_, ?_⟩; (focus (go_simp; (try go_bits); (try simp only [↓IntWalk.iteOmega]); with_reducible rfl)); simp only [Act.put, List.setIfInBounds_toArray, List.set_cons_zero, List.set_cons_succ]))
    have hP4 := hP.grown hG2 (by simp)
    have hO4 := hO.grown hG2 (by simp)
    have hb5 := hb.trans (below_grown hG2 hb.size (fun g e => by cases e))
    have hz5 := hb5.size
    clear hG0 hG1 hG2 hb3 hb4
    refine ord_tail rfl fun K hK => ?_
    go_wp2_with (refine wpList_store_blk rfl 48 (.tmp 3) (.tmp 21) rfl hP4 #[.int .i64 (max a (wgtB x.1) : Nat), .int .i64 (max b (wgtI x.1) : Nat)] rfl rfl (by kernel_rfl) rfl (by simp [Value.oneCell']) ?_; intro w9 hB9 hg9 hs9)
    refine hK.out _ _ ?_
    clear hK K
    have hO9 := hO4.grown hg9 (fun e => by injection e with e; omega)
    have hb9 := hb5.trans (below_grown hg9 hz5 (fun g e => by injection e with e; omega))
    clear hP4 hO4 hb5 hz5 hP hO hb p0' p1' t0 t1 hg9 hs9
    go_wp2
    go_roundw
    case rel => exact ⟨k + 1, _, _, by go_num, by omega, by omega, Hst.out, hB9, hO9, hb9⟩
    case measure => simp [intOf]; omega
  · have hki : ¬ (k : Int) < n := by omega
    have hkn : k - 1 = rest.length := by omega
    have hfR := Hf.out
    rw [hkn, List.take_length, HR.out] at hfR
    have HfR := Lib.hid hfR
    clear hkn hfR
    go_wp2_with (first | (refine wpList_load_row rfl 48 (.tmp 3) rfl pg rfl 48 #[.int .i64 a, .int .i64 b] (0, 0) _ hP Tryz.underlying48 rfl (by kernel_rfl) ?_) | (refine wpList_store_blk rfl 48 (.tmp 2) (.tmp 22) rfl hO #[.int .i64 a, .int .i64 b] rfl rfl (by kernel_rfl) rfl (by simp [Value.oneCell']) ?_; intro w9 hB9 hg9 hs9))
    exact ret_cell1 rfl rfl (load_blk hB9 Tryz.underlying48 rfl (by kernel_rfl)) rfl ⟨by rw [HfR.out]; rfl, hb.trans (below_grown hg9 hb.size (fun g e => by injection e with e; omega))⟩
theorem curve_small (sd : List ByteArray) : ∀ (cs : List Cmd) {M : PW}, WOkP M → ∀ x ∈ wgM M :: curveT sd cs M, x.1 < 1000000000 ∧ x.2 < 1000000000
  | [], M, hM, x, hx => by
    rw [curveT, List.mem_singleton] at hx
    rw [hx]
    exact wgM_small hM.inv hM.len
  | c :: cs, M, hM, x, hx => by
    rcases List.mem_cons.1 hx with rfl | hx
    · exact wgM_small hM.inv hM.len
    · rw [curveT] at hx
      split at hx
      · exact curve_small sd cs (hM.do c sd) x hx
      · cases hx
def MPeakRes (T : List (Nat × Nat)) (E : Int) (w : World) (e : Ending) (w' : World) : Prop :=
  (∃ c d : Nat, e = .returned (.tuple #[.complex .f64 c d, .int .i64 E]) ∧ (E ≠ 0 → c = 0 ∧ d = 0) ∧ (E = 0 → ∃ x0 rest, T = x0 :: rest ∧ c = N (rest.foldl maxP x0).1 ∧ d = N (rest.foldl maxP x0).2)) ∧ Below w.heap.size w w'
set_option maxRecDepth 100000 in
set_option maxHeartbeats 8000000 in
theorem mpeak_any (t : TV) (ds : List ByteArray) (cs : List Cmd) (hco : ∀ c ∈ cs, OpOk c) (A : Option Addr) (n cap : Nat) (SA : Option Addr) (sn sc : Nat) (ss : List SC) (sd : List ByteArray) (w : World) (h : TreeD w t ds) (hA : Sl w w.heap.size 5 A n (cs.flatMap Cmd.list)) (hn : cs.length = n) (hn4 : n ≤ 4096) (hS : StockAt w SA sn ss sd) :
    Calls Tryz.prog 9 #[t.val, .slice A n cap, .slice SA sn sc] w (MPeakRes (curveR t ds cs sd) (runR t ds cs sd).2.2 w) := by
  have hb := (Below.refl w.heap.size w).alloc (Nat.le_refl _) (.cells #[.slice t.NA t.nn t.nc, .slice t.FA t.fn t.fc] 25)
  have hT := Blk.new w 25 #[.slice t.NA t.nn t.nc, .slice t.FA t.fn t.fc]
  obtain ⟨W0, hW0⟩ : ∃ W, w.alloc (.cells #[.slice t.NA t.nn t.nc, .slice t.FA t.fn t.fc] 25) = W := ⟨_, rfl⟩
  rw [hW0] at hb hT
  have hc := Curve_any t ds cs hco A n cap SA sn sc ss sd W0 (h.keep hb) ((hA.below hb (Nat.le_refl _)).more hb.size) hn hn4 (hS.keep hb)
  have hsm : looseE t = 0 → ∀ x ∈ curveR t ds cs sd, x.1 < 1000000000 ∧ x.2 < 1000000000 := fun hl => by
    unfold curveR
    rw [if_pos hl]
    exact curve_small sd cs (open_ok h hl)
  have hnl : looseE t ≠ 0 → (runR t ds cs sd).2.2 = looseE t := fun hl => by unfold runR; rw [if_neg hl]
  have hcs : looseE t = 0 → ∃ x0 rest, curveR t ds cs sd = x0 :: rest := fun hl => by unfold curveR; rw [if_pos hl]; exact ⟨_, _, rfl⟩
  have hlen : (curveR t ds cs sd).length ≤ 5000 := by
    have h1 : ∀ (l : List Cmd) (M : PW), (curveT sd l M).length ≤ l.length := fun l => by
      induction l with
      | nil => intro M; simp [curveT]
      | cons c l ih => intro M; rw [curveT]; split <;> simp; exact ih _
    unfold curveR
    split
    · rw [List.length_cons]; have := h1 cs (openM t ds); omega
    · simp
  obtain ⟨E, hE⟩ : ∃ E, (runR t ds cs sd).2.2 = E := ⟨_, rfl⟩
  obtain ⟨T, hTT⟩ : ∃ T, curveR t ds cs sd = T := ⟨_, rfl⟩
  obtain ⟨F, hF⟩ : ∃ F, looseE t = F := ⟨_, rfl⟩
  rw [hE, hTT] at hc
  rw [hTT, hF] at hsm hcs
  rw [hTT] at hlen
  rw [hE, hF] at hnl
  rw [hE, hTT]
  unfold CurveRes at hc
  unfold TV.val at hc ⊢
  have b0 := hT.cell 0; have b1 := hT.cell 1
  have Hc := Lib.hid hc; have HW0 := Lib.hid hW0; have Hsm := Lib.hid hsm; have Hcs := Lib.hid hcs; have Hnl := Lib.hid hnl; have Hlen := Lib.hid hlen
  clear hc hW0 hsm hcs hnl hlen hE hTT hF hA hS h hT
  have hz := hb.size
  by_cases h0 : E = 0
  · have hF0 : F = 0 := by
      by_cases hf : F = 0
      · exact hf
      · exact absurd ((Hnl.out hf).symm.trans h0) hf
    obtain ⟨x0, rest, hT0⟩ := Hcs.out hF0
    have hs := Hsm.out hF0
    have e2 : (E != 0) = false := by simp [h0]
    have HT0 := Lib.hid hT0; have Hs := Lib.hid hs; have HE0 := Lib.hid h0
    clear hT0 hs h0 hF0
    go_enter Tryz.func9, Tryz.ntmps9
    go_upto_region 2 with ((try rw [HW0.out]); go_at_call 8; refine Hc.out.mono ?_; rintro e w1 ⟨A2, n2, c2, rfl, hrow, hln, hb1⟩)
    have hSl := Sl.of_own hrow
    have hn2 : n2 ≤ 5000 := by rw [← hln]; exact Hlen.out
    have hn1 : 0 < n2 := by rw [← hln, HT0.out]; simp
    replace hb := hb.trans (hb1.mono hz)
    obtain ⟨tb, to', y, rfl, htb, hp, hcp⟩ := hSl.get (f := cxC) (fun _ => rfl) hln hn1
    obtain rfl : x0 = y := by rw [HT0.out] at hp; simpa using hp
    have t0 := hcp 0 _ rfl
    simp only [Nat.add_zero, Nat.zero_mul] at t0
    have hn0 : (0 : Int) < n2 := by omega
    have HSl := Lib.hid hSl; have Hln := Lib.hid hln
    have hx0 := Hs.out x0 (by rw [HT0.out]; exact List.mem_cons_self)
    clear hp hcp hrow hln hb1 b0 b1 Hc
    go_wp2
    go_loopw [11, 30] (fun v i wr => ∃ (k a b : Nat), k ≤ n2 ∧ i = .int .i64 k ∧ v = .complex .f64 (N a) (N b) ∧ (T.take k).foldl maxP x0 = (a, b) ∧ Below w1.heap.size w1 wr) (fun _ i _ => n2 - (intOf i).toNat)
    case atStart => exact ⟨0, x0.1, x0.2, Nat.zero_le _, rfl, rfl, rfl, Below.refl _ _⟩
    case round =>
    obtain ⟨k, a, b, hk, rfl, rfl, hf, hbr⟩ := hrel
    have Hf := Lib.hid hf
    have hab := max_small hx0 (l := T.take k) (fun y hy => Hs.out y (List.mem_of_mem_take hy))
    rw [hf] at hab
    obtain ⟨ha1, ha2⟩ := hab
    simp only at ha1 ha2
    clear hf
    by_cases hlt : k < n2
    · have hki : (k : Int) < n2 := by omega
      obtain ⟨tb2, to2, x, e2', htb2, hp, hcp⟩ := (HSl.out.below hbr (Nat.le_refl _)).get (f := cxC) (fun _ => rfl) Hln.out hlt
      obtain ⟨rfl, rfl⟩ : tb = tb2 ∧ to' = to2 := by injection e2' with e2'; injection e2' with e3 e4; exact ⟨e3, e4⟩
      have t0 := hcp 0 _ rfl
      simp only [Nat.add_zero, Nat.mul_one] at t0
      have hxs := Hs.out x (List.mem_of_getElem? hp)
      have Hst := Lib.hid (show (T.take (k + 1)).foldl maxP x0 = (max a x.1, max b x.2) by
        rw [List.take_add_one, hp, List.foldl_append, Hf.out]
        rfl)
      have htl := Nat.lt_of_lt_of_le htb2 hbr.size
      obtain ⟨hx1, hx2⟩ := hxs
      clear hp hcp e2'
      go_wp2_with (go_at_call 22; refine (mostG a b x.1 x.2 (by omega) (by omega) (by omega) (by omega) _).mono ?_; rintro e w3 ⟨rfl, hb3⟩)
      go_roundw
      case rel => exact ⟨k + 1, _, _, by omega, by go_num, rfl, Hst.out, hbr.trans (hb3.mono hbr.size)⟩
      case measure => simp [intOf]; omega
    · have hki : ¬ (k : Int) < n2 := by omega
      have hfin : rest.foldl maxP x0 = (a, b) := by
        have h1 := Hf.out
        rw [List.take_of_length_le (by rw [Hln.out]; omega), HT0.out, List.foldl_cons, maxP_self] at h1
        exact h1
      have HFin := Lib.hid hfin
      clear hfin
      go_wp2
      go_ret2
      refine ⟨⟨N a, N b, by rw [HE0.out]; rfl, fun h => absurd HE0.out h, fun _ => ⟨x0, rest, HT0.out, by rw [HFin.out], by rw [HFin.out]⟩⟩, hb.trans (hbr.mono hb.size)⟩
  · have e2 : (E != 0) = true := bne_iff_ne.2 h0
    go_enter Tryz.func9, Tryz.ntmps9
    go_wp2_with ((try rw [HW0.out]); go_at_call 8; refine Hc.out.mono ?_; rintro e w1 ⟨A2, n2, c2, rfl, hrow, hln, hb1⟩)
    go_ret2
    exact ⟨⟨0, 0, rfl, fun _ => ⟨rfl, rfl⟩, fun h => absurd h h0⟩, hb.trans (hb1.mono hz)⟩
end Go.Proofs.YthmeffpickejkaaGreat
