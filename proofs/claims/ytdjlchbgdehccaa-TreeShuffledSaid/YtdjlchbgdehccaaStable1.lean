/- slices.swapRangeCmpFunc at nodes: two blocks of one length change places. -/
import Derived.Test.YtdjlchbgdehccaaStableP
import Derived.Test.YtdjlchbgdehccaaCanonP
import Derived.Shelf.RegionOpenPlain
namespace Go.Proofs.Ytdjlchbgdehccaa
open Go.RowKit


/-- A row of nodes of one's own, in a world that has turned this row alone. -/
structure SortSt (w0 : World) (base : Nat) (A : Option Addr) (n c : Nat) (l : List Node) (W : World) : Prop where
  own : W.ownsRow base 29 3 (.slice A n c) n (l.flatMap Node.list)
  grown : w0.grownBy W (blkOf A)
  len : l.length = n
theorem SortSt.quiet {w0 W W' : World} {base n c : Nat} {A : Option Addr} {l : List Node} (h : SortSt w0 base A n c l W) (hg : W.grownBy W' none) : SortSt w0 base A n c l W' :=
  ⟨own_keep h.own fun g o e => hg.block g (own_lt2 (by rw [← e]; exact h.own)).2.1 (by simp), grown_trans h.grown (grown_any hg), h.len⟩
theorem node_one3 (x : Node) : ∀ u ∈ x.list, u.oneCell' = true := by
  intro u hu
  simp only [Node.list, List.mem_cons, List.not_mem_nil, or_false] at hu
  rcases hu with rfl | rfl | rfl <;> rfl
theorem flat_put {l : List Node} {i : Nat} (hi : i < l.length) (x : Node) : (l.flatMap Node.list).take (i * 3) ++ x.list ++ (l.flatMap Node.list).drop ((i + 1) * 3) = (l.set i x).flatMap Node.list := by
  obtain ⟨y, hy⟩ : ∃ y, l[i]? = some y := ⟨_, List.getElem?_eq_getElem hi⟩
  have e : l = l.take i ++ y :: l.drop (i + 1) := by rw [← take_set_drop hy, List.take_append_drop]
  have hl : (l.take i).length = i := by rw [List.length_take]; omega
  have hf : ∀ m : List Node, (m.flatMap Node.list).length = m.length * 3 := fun m => by
    induction m with
    | nil => rfl
    | cons a t ih => rw [List.flatMap_cons, List.length_append, ih, Node.len, List.length_cons]; omega
  have h1 : (l.flatMap Node.list).take (i * 3) = (l.take i).flatMap Node.list := by
    conv => lhs; rw [e]
    rw [List.flatMap_append, List.take_append_of_le_length (by rw [hf, hl]; exact Nat.le_refl _), List.take_of_length_le (by rw [hf, hl]; exact Nat.le_refl _)]
  have h2 : (l.flatMap Node.list).drop ((i + 1) * 3) = (l.drop (i + 1)).flatMap Node.list := by
    have e2 : l = l.take (i + 1) ++ l.drop (i + 1) := (List.take_append_drop _ _).symm
    have hl2 : (l.take (i + 1)).length = i + 1 := by rw [List.length_take]; omega
    conv => lhs; rw [e2]
    rw [List.flatMap_append, List.drop_append_of_le_length (by rw [hf, hl2]; exact Nat.le_refl _), List.drop_of_length_le (by rw [hf, hl2]; exact Nat.le_refl _), List.nil_append]
  rw [h1, h2]
  have e3 : l.set i x = l.take i ++ x :: l.drop (i + 1) := by
    conv => lhs; rw [e]
    rw [set_at hl.symm]
  rw [e3]; simp
/-- Two elements change places: the two runs of stores. -/
theorem SortSt.swap {w0 W : World} {base g n c : Nat} {l : List Node} (h : SortSt w0 base (some ⟨g, 0, none⟩) n c l W) {i j : Nat} {x y : Node} (hi : l[i]? = some x) (hj : l[j]? = some y) :
    ∃ W1 W2, Sem.run Try.prog (storeCells ⟨g, i * 3, none⟩ y.list 0) W.drew = .ok () W1 ∧ Sem.run Try.prog (storeCells ⟨g, j * 3, none⟩ x.list 0) W1 = .ok () W2 ∧
      SortSt w0 base (some ⟨g, 0, none⟩) n c ((l.set i y).set j x) W2 := by
  have hil : i < l.length := (List.getElem?_eq_some_iff.1 hi).1
  have hjl : j < l.length := (List.getElem?_eq_some_iff.1 hj).1
  obtain ⟨W1, r1, o1, g1⟩ := run_store_own (P := Try.prog) (ty := 29) (k := i) (own_drew h.own) (by rw [← h.len]; exact hil) #[.string y.path, .int .i64 y.file, .int .i64 y.mode] rfl (by kernel_rfl) (node_one3 y)
  rw [show (#[.string y.path, .int .i64 y.file, .int .i64 y.mode] : Array Value).toList = y.list from rfl, flat_put hil] at o1
  obtain ⟨W2, r2, o2, g2⟩ := run_store_own (P := Try.prog) (ty := 29) (k := j) o1 (by rw [← h.len]; exact hjl) #[.string x.path, .int .i64 x.file, .int .i64 x.mode] rfl (by kernel_rfl) (node_one3 x)
  rw [show (#[.string x.path, .int .i64 x.file, .int .i64 x.mode] : Array Value).toList = x.list from rfl, flat_put (by rw [List.length_set]; exact hjl)] at o2
  have e : ∀ (z : Node) (a : Addr) (V : World), (storeVar 29 a (.agg #[.string z.path, .int .i64 z.file, .int .i64 z.mode])).run Try.prog V = Sem.run Try.prog (storeCells a z.list 0) V := fun z a V => by
    have hi : (Try.prog.info? 29).map (·.size) = some 3 := by kernel_rfl
    cases hq : Try.prog.info? 29 with
    | none => simp [hq] at hi
    | some i =>
      have hs : i.size = 3 := by simpa [hq] using hi
      simp [storeVar, sizeOf, typeInfo, hq, Value.cells, hs, Node.list]
  rw [e] at r1 r2
  exact ⟨W1, W2, r1, r2, o2, grown_trans (grown_trans h.grown (grown_any (grown_drew W none))) (grown_trans g1 g2), by rw [List.length_set, List.length_set]; exact h.len⟩
theorem SortSt.load {w0 W : World} {base g n c : Nat} {l : List Node} (h : SortSt w0 base (some ⟨g, 0, none⟩) n c l W) {i : Nat} {x : Node} (hi : l[i]? = some x) :
    Sem.run Try.prog (loadCellsFrom ⟨g, i * 3, none⟩ 0 3 #[]) W = .ok x.list.toArray W := by
  have h1 := run_loadCells_list (P := Try.prog) (w := W) ⟨g, i * 3, none⟩ x.list fun j v hv => by
    have := (own_row h.own).1 (i * 3 + j) v ((flat_get Node.len hi (by have := (List.getElem?_eq_some_iff.1 hv).1; rw [Node.len] at this; exact this)).trans hv)
    rw [Nat.zero_add] at this
    have e : (⟨g, i * 3, none⟩ : Addr).add j = ⟨g, i * 3 + j, none⟩ := by unfold Addr.add; split <;> simp_all
    rw [e]
    exact this
  rw [show x.list.length = 3 from rfl] at h1
  simpa [loadCells] using h1
theorem Try.nodeAgg : ∀ w, (isAgg 29).run Try.prog w = .ok true w := fun w => by kernel_rfl
theorem Try.nodeSize : ∀ w, (Go.sizeOf 29).run Try.prog w = .ok 3 w := fun w => by kernel_rfl
theorem Try.nodesAgg : ∀ w, (isAgg 23).run Try.prog w = .ok false w := fun w => by kernel_rfl
theorem Try.nodesSize : ∀ w, (Go.sizeOf 23).run Try.prog w = .ok 1 w := fun w => by kernel_rfl
theorem Try.intU : Try.prog.underlying 3 = some (.int .i64) := Try.underlying3
theorem SortSt.cells {w0 W : World} {base g n c : Nat} {l : List Node} (h : SortSt w0 base (some ⟨g, 0, none⟩) n c l W) {i : Nat} {x : Node} (hi : l[i]? = some x) :
    W.cell? ⟨g, i * 3, none⟩ = some (.string x.path) ∧ W.cell? ⟨g, i * 3 + 1, none⟩ = some (.int .i64 x.file) ∧ W.cell? ⟨g, i * 3 + 2, none⟩ = some (.int .i64 x.mode) := by
  have hc : ∀ (j : Nat) (v : Value), j < 3 → x.list[j]? = some v → W.cell? ⟨g, i * 3 + j, none⟩ = some v := fun j v hj hv => by
    have := (own_row h.own).1 (i * 3 + j) v ((flat_get Node.len hi hj).trans hv)
    rwa [Nat.zero_add] at this
  exact ⟨hc 0 _ (by omega) rfl, hc 1 _ (by omega) rfl, hc 2 _ (by omega) rfl⟩
set_option maxRecDepth 100000 in
set_option maxHeartbeats 2000000 in
theorem swapRange_any (w0 : World) (base n c : Nat) (A : Option Addr) (A0 X M Y B : List Node) (k a b : Nat) (cv : Value) (W : World) (hX : X.length = k) (hY : Y.length = k) (ha : A0.length = a) (hb : b = a + k + M.length) (hn : n ≤ 1000000) (h : SortSt w0 base A n c (A0 ++ X ++ M ++ Y ++ B) W) :
    Calls Try.prog 111 #[.slice A n c, .int .i64 a, .int .i64 b, .int .i64 k, cv] W fun e W' => e = .returned (.tuple #[]) ∧ SortSt w0 base A n c (A0 ++ Y ++ M ++ X ++ B) W' := by
  have hlen := h.len
  simp only [List.length_append] at hlen
  have h0 : SortSt w0 base A n c (swapAt A0 X M Y B 0) W := by rw [swapAt_0]; exact h
  have H0 := Lib.hid h0
  have hfin := swapAt_n A0 X M Y B hX hY
  obtain ⟨R, hR⟩ : ∃ R, A0 ++ Y ++ M ++ X ++ B = R := ⟨_, rfl⟩
  rw [hR] at hfin ⊢
  clear hR
  have HF := Lib.hid hfin
  have HX := Lib.hid hX; have HY := Lib.hid hY
  clear h h0 hfin
  have hkn : a + k ≤ n := by omega
  have hbn : b + k ≤ n := by omega
  rw [hX, hY] at hlen
  clear hX hY
  have HL := Lib.hid hlen; have HB := Lib.hid hb; have HA := Lib.hid ha
  clear hlen hb ha
  go_enter Try.func111, Try.ntmps111
  go_wp2
  go_loopw [10] (fun v wr => ∃ i : Nat, i ≤ k ∧ v = .int .i64 i ∧ SortSt w0 base A n c (swapAt A0 X M Y B i) wr) (fun v _ => k - (intOf v).toNat)
  case atStart => exact ⟨0, Nat.zero_le _, rfl, H0.out⟩
  case round =>
    clear H0
    obtain ⟨i, hi, rfl, hs⟩ := hrel
    by_cases hlt : i < k
    · have hki : (i : Int) < k := by omega
      obtain ⟨g, rfl⟩ : ∃ g, A = some ⟨g, 0, none⟩ := own_some hs.own (by omega)
      obtain ⟨x, hx⟩ : ∃ x, X[i]? = some x := ⟨_, List.getElem?_eq_getElem (by rw [HX.out]; exact hlt)⟩
      obtain ⟨y, hy⟩ : ∃ y, Y[i]? = some y := ⟨_, List.getElem?_eq_getElem (by rw [HY.out]; exact hlt)⟩
      have g1 : (swapAt A0 X M Y B i)[a + i]? = some x := by rw [← HA.out, swapAt_get1 A0 X M Y B HX.out HY.out hlt]; exact hx
      have g2 : (swapAt A0 X M Y B i)[b + i]? = some y := by rw [HB.out, ← HA.out, swapAt_get2 A0 X M Y B HX.out HY.out hlt]; exact hy
      have hnext : ((swapAt A0 X M Y B i).set (a + i) y).set (b + i) x = swapAt A0 X M Y B (i + 1) := by rw [HB.out, ← HA.out]; exact swapAt_succ A0 X M Y B HX.out HY.out hx hy
      obtain ⟨W1, W2, s1, s2, hs2⟩ := hs.swap g1 g2
      have lx := (hs.quiet (grown_drew wr none)).load g1
      have ly := (hs.quiet (grown_drew wr none)).load g2
      obtain ⟨cx, hcx⟩ : ∃ zq, Node.list x = zq := ⟨_, rfl⟩
      obtain ⟨cy, hcy⟩ : ∃ zq, Node.list y = zq := ⟨_, rfl⟩
      have lcx : cx.length = 3 := by rw [← hcx]; rfl
      have lcy : cy.length = 3 := by rw [← hcy]; rfl
      rw [hcx] at lx s2
      rw [hcy] at ly s1
      rw [hnext] at hs2
      have HS2 := Lib.hid hs2
      clear hcx hcy hs2 hs hnext g1 g2 hx hy
      have ea : ((a : Int) + i).toNat = a + i := by omega
      have eb : ((b : Int) + i).toNat = b + i := by omega
      have a0 : (0 : Int) ≤ (a : Int) + i := by omega
      have b0 : (0 : Int) ≤ (b : Int) + i := by omega
      have wa : IntKind.i64.wrap ((a : Int) + i) = (a : Int) + i := by rw [IntKind.wrap_i64]; omega
      have wb : IntKind.i64.wrap ((b : Int) + i) = (b : Int) + i := by rw [IntKind.wrap_i64]; omega
      have an : (a : Int) + i < n := by omega
      have bn : (b : Int) + i < n := by omega
      go_wp2
      have mixed : Try.prog.follows .mixedOrders = true := by kernel_rfl
      have t23 := Try.underlying23
      have t3 := Try.intU
      have u23 := run_underlying Try.underlying23
      have u3 := run_underlying Try.intU
      have aE := Try.nodeAgg; have a23 := Try.nodesAgg; have z23 := Try.nodesSize
      obtain ⟨q, hq⟩ : ∃ q, 3 = q := ⟨3, rfl⟩
      rw [hq] at lx ly s1 s2 lcx lcy
      have zE : ∀ w, (Go.sizeOf 29).run Try.prog w = .ok q w := fun w => by rw [← hq]; exact Try.nodeSize w
      clear hq
      generalize hP : Try.prog = P at mixed t23 t3 u23 u3 aE zE a23 z23 lx ly s1 s2 ⊢
      go_big_region_o
      subst hP
      clear mixed t23 t3 u23 u3 aE zE a23 z23 lx ly s1 s2 lcx lcy
      all_goals go_wp2
      go_roundw
      case rel => exact ⟨i + 1, by omega, by go_num, HS2.out⟩
      case measure => simp [intOf]; omega
    · obtain rfl : i = k := by omega
      have hki : ¬ (i : Int) < i := by omega
      go_wp2
      go_end0
      exact ⟨rfl, by rw [← HF.out]; exact hs⟩
end Go.Proofs.Ytdjlchbgdehccaa
