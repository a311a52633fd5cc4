/- shuntref19.Refs. -/
import Derived.Test.YtgeiegjpnnbloaaDoorQReadA
import Derived.Test.YtgeiegjpnnbloaaDoorOneQ
namespace Go.Proofs.YtgeiegjpnnbloaaDoor
open Go.ChangeShapes Go.WideShapes Go.ChangeAt Go.ChangeMaps Go.RowKit Go.Deep

theorem Tryd.intT : ElemT Tryd.prog 99 3 1 8 := ElemT.mk' (z := .int .i64 0) Tryd.underlying99 (by kernel_rfl) rfl (by decide)
def nums (l : List Int) : List Value := l.map (Value.int .i64)
theorem nums_len (l : List Int) : (nums l).length = l.length := by unfold nums; rw [List.length_map]
theorem nums_one (l : List Int) : ∀ v ∈ nums l, v.oneCell' = true := fun v hv => by
  unfold nums at hv
  rw [List.mem_map] at hv
  obtain ⟨x, _, rfl⟩ := hv
  rfl
theorem nums_ins (l : List Int) (k : Nat) (x : Int) : nums (l.take k ++ x :: l.drop k) = nums (l.take k) ++ (#[.int .i64 x] : Array Value).toList ++ nums (l.drop k) := by simp [nums]
theorem nums_take (l : List Int) (k : Nat) : (nums l).take k = nums (l.take k) := by unfold nums; rw [List.map_take]
theorem nums_drop (l : List Int) (k : Nat) : (nums l).drop k = nums (l.drop k) := by unfold nums; rw [List.map_drop]
theorem ins_rise {l : List Int} {k : Nat} {x : Int} (h : l.Pairwise (· < ·)) (h1 : ∀ a ∈ l.take k, a < x) (h2 : ∀ y, l[k]? = some y → x < y) : (l.take k ++ x :: l.drop k).Pairwise (· < ·) := by
  have hd : ∀ a ∈ l.drop k, x < a := fun a ha => by
    obtain ⟨j, hj⟩ := List.mem_iff_getElem?.1 ha
    rw [List.getElem?_drop] at hj
    have hk : k < l.length := by have := (List.getElem?_eq_some_iff.1 hj).1; omega
    have h3 := h2 _ (List.getElem?_eq_getElem hk)
    cases j with
    | zero => rw [Nat.add_zero, List.getElem?_eq_getElem hk] at hj; injection hj with hj; omega
    | succ j =>
      obtain ⟨hj1, hj2⟩ := List.getElem?_eq_some_iff.1 hj
      have := List.pairwise_iff_getElem.1 h k (k + (j + 1)) hk hj1 (by omega)
      omega
  rw [List.pairwise_append]
  refine ⟨h.sublist (List.take_sublist _ _), ?_, ?_⟩
  · rw [List.pairwise_cons]
    exact ⟨hd, h.sublist (List.drop_sublist _ _)⟩
  · intro a ha b hb
    rcases List.mem_cons.1 hb with rfl | hb
    · exact h1 a ha
    · have := h1 a ha; have := hd b hb; omega
theorem ins_mem {l : List Int} {k : Nat} {x a : Int} : a ∈ l.take k ++ x :: l.drop k ↔ a ∈ l ∨ a = x := by
  rw [List.mem_append, List.mem_cons]
  have : a ∈ l ↔ a ∈ l.take k ∨ a ∈ l.drop k := by rw [← List.mem_append, List.take_append_drop]
  rw [this]
  constructor
  · rintro (h | h | h) <;> simp [h]
  · rintro ((h | h) | h) <;> simp [h]
structure OutQ (xs : List Ins) (w : World) (i : Nat) (A : Option Addr) (m c : Nat) (out : List Int) (wr : World) : Prop where
  row : wr.ownsRow w.heap.size 3 1 (.slice A m c) m (nums out)
  below : Below w.heap.size w wr
  len : out.length = m
  rise : out.Pairwise (· < ·)
  mem : ∀ a, a ∈ out ↔ a ∈ wrL (xs.take i)
  le : m ≤ i
def RefsRes (xs : List Ins) (w : World) (e : Ending) (w' : World) : Prop :=
  ∃ A m c out, e = .returned (.slice A m c) ∧ OutQ xs w xs.length A m c out w'
theorem OutQ.skip {xs : List Ins} {w : World} {i : Nat} {A : Option Addr} {m c : Nat} {out : List Int} {wr w2 : World} (h : OutQ xs w i A m c out wr) (hg : wr.grownBy w2 none) {x : Ins} (hx : xs[i]? = some x) (hs : x.op = 6 → x.ref ∈ out) : OutQ xs w (i + 1) A m c out w2 := by
  refine ⟨own_grow h.row hg (fun q e => by cases e), h.below.trans (below_grown (B := w.heap.size) hg h.below.size (fun q e => by cases e)), h.len, h.rise, fun a => ?_, Nat.le_succ_of_le h.le⟩
  rw [take_snoc' hx, wrL_snoc, List.mem_append, ← h.mem a]
  by_cases h6 : x.op = 6
  · rw [if_pos h6, List.mem_singleton]
    exact ⟨.inl, fun h' => h'.elim id (fun e => e ▸ hs h6)⟩
  · rw [if_neg h6]
    exact ⟨.inl, fun h' => h'.elim id (fun e => nomatch e)⟩
set_option maxRecDepth 100000 in
set_option maxHeartbeats 8000000 in
theorem refs_any (xs : List Ins) (A : Option Addr) (n c : Nat) (w : World) (hA : Sl w w.heap.size 5 A n (insL xs)) (hn : xs.length = n) (hm : n ≤ 4096) (hxr : ∀ x ∈ xs, 0 ≤ x.ref ∧ x.ref ≤ 65535) :
    Calls Tryd.prog 39 #[.slice A n c] w (RefsRes xs w) := by
  have HA := Lib.hid hA; have HN := Lib.hid hn; have HXr := Lib.hid hxr
  clear hA hn hxr
  go_enter Tryd.func39, Tryd.ntmps39
  go_wp2
  go_loopw [3, 4] (fun o v wr => ∃ i OA m oc out, v = .int .i64 (i : Nat) ∧ o = .slice OA m oc ∧ i ≤ n ∧ OutQ xs w i OA m oc out wr) (fun _ v _ => n - (intOf v).toNat)
  case atStart => exact ⟨0, none, 0, 0, [], rfl, rfl, Nat.zero_le _, World.ownsRow_nil _ _ _ _, Below.refl _ _, rfl, List.Pairwise.nil, (fun a => by rw [List.take_zero]; exact Iff.rfl), Nat.le_refl _⟩
  case round =>
  obtain ⟨i, OA, m, oc, out, rfl, rfl, hi, hO⟩ := hrel
  obtain ⟨U0, hU0⟩ : ∃ U, U = wr := ⟨_, rfl⟩
  subst hU0
  have HO := Lib.hid hO
  have hsz := hO.below.size
  have hmi := hO.le
  clear hO
  by_cases hlt : i < n
  · have hki : (i : Int) < n := by omega
    obtain ⟨tb, to', x, rfl, htb, hx, hc⟩ := (HA.out.below HO.out.below (Nat.le_refl _)).get (f := Ins.list) (fun _ => rfl) HN.out hlt
    have a0 := hc 0 _ rfl; have a4 := hc 4 _ rfl
    simp only [Nat.add_zero] at a0 a4
    have hbl : tb < U0.heap.size := by omega
    obtain ⟨hr1, hr2⟩ := HXr.out x (List.mem_of_getElem? hx)
    obtain ⟨op, pp, dd, md, rf⟩ := x
    simp only at a0 a4 hr1 hr2
    have HX := Lib.hid hx
    clear hc hx
    by_cases h6 : op = 6
    · subst h6
      have hb0 : Below U0.heap.size U0 U0 := Below.refl _ _
      have hgl : ∀ g q, OA = some ⟨g, q, none⟩ → g < U0.heap.size := fun g q e => own_in HO.out.row g q e
      have HGl := Lib.hid hgl
      clear hgl
      go_wp2
      go_loopw [5] (fun v wr => ∃ k : Nat, k ≤ m ∧ v = .int .i64 k ∧ (∀ a ∈ out.take k, a < rf) ∧ U0.grownBy wr none) (fun v _ => m - (intOf v).toNat)
      case atStart => exact ⟨0, Nat.zero_le _, rfl, (fun a ha => by rw [List.take_zero] at ha; cases ha), World.grownBy.refl _ _⟩
      case round =>
      obtain ⟨k, hk, rfl, hlo, hgU⟩ := hrel
      obtain ⟨U, hU⟩ : ∃ U, U = wr := ⟨_, rfl⟩
      subst hU
      have HLo := Lib.hid hlo
      have hus := hgU.size
      have hbU : Below U0.heap.size U0 U := below_grown hgU (Nat.le_refl _) (fun g e => by cases e)
      have hrow := own_grow HO.out.row hgU (fun q e => by cases e)
      have HRow := Lib.hid hrow
      have a4U : U.cell? ⟨tb, to' + i * 5 + 4, none⟩ = some (.int .i64 rf) := by
        rw [show U.cell? ⟨tb, to' + i * 5 + 4, none⟩ = U0.cell? ⟨tb, to' + i * 5 + 4, none⟩ by unfold World.cell?; rw [hgU.block tb hbl (fun e => by cases e)]]
        exact a4
      have hblU : tb < U.heap.size := by omega
      clear hlo hbU hrow
      by_cases hkm : k < m
      · have hkmi : (k : Int) < m := by omega
        have hkd : decide (k < m) = true := decide_eq_true hkm
        obtain ⟨g, rfl⟩ : ∃ g, OA = some ⟨g, 0, none⟩ := by
          rcases HO.out.row.2 with ⟨e0, h0⟩ | ⟨g, cap, cur, hv, _⟩
          · omega
          · injection hv with h1; exact ⟨g, h1⟩
        obtain ⟨y, hy⟩ : ∃ y, out[k]? = some y := ⟨_, List.getElem?_eq_getElem (by rw [HO.out.len]; exact hkm)⟩
        have a1 := (own_row HRow.out).1 k (.int .i64 y) (by unfold nums; rw [List.getElem?_map, hy]; rfl)
        rw [Nat.zero_add] at a1
        have hgl : g < U.heap.size := own_in HRow.out g 0 rfl
        have HY := Lib.hid hy
        clear hy
        by_cases hyr : y < rf
        · have hyd : decide (y < rf) = true := decide_eq_true hyr
          go_upto_region 7 with (fail)
          refine wp_region_ordB (none) [(0, true), (1, true), (2, true), (3, true), (4, true), (5, true), (6, true), (7, true), (8, true), (9, true), (10, true), (11, true), (12, true), (13, true), (14, true), (15, true)] (by kernel_rfl) (by kernel_rfl) fun hG0 => ?_
          repeat (first
            | (refine ord_skipB rfl (by rfl) ?_; simp only [Act.put, List.setIfInBounds_toArray, List.set_cons_zero, List.set_cons_succ])
            | (refine ord_qE rfl (by rfl) ?_; apply Exists.intro; refine ⟨fun w' hc' => ?_, ?_⟩; (focus (go_simp; (try go_bits); (try simp only [↓IntWalk.iteOmega]); with_reducible rfl)); simp only [Act.put, List.setIfInBounds_toArray, List.set_cons_zero, List.set_cons_succ]))
          refine ord_end ?_
          go_wp2
          go_roundw
          case rel =>
            refine ⟨k + 1, by omega, by go_num, fun z hz => ?_, grown_trans hgU hG0⟩
            rw [take_snoc' HY.out] at hz
            rcases List.mem_append.1 hz with hz | hz
            · exact HLo.out z hz
            · rw [List.mem_singleton.1 hz]; exact hyr
          case measure => simp [intOf]; omega
        · have hyd : decide (y < rf) = false := decide_eq_false hyr
          go_upto_region 7 with (fail)
          refine wp_region_ordB (none) [(0, true), (1, true), (2, true), (3, true), (4, true), (5, true), (6, true), (7, true), (8, true), (9, true), (10, true), (11, true), (12, true), (13, true), (14, true), (15, true)] (by kernel_rfl) (by kernel_rfl) fun hG0 => ?_
          repeat (first
            | (refine ord_skipB rfl (by rfl) ?_; simp only [Act.put, List.setIfInBounds_toArray, List.set_cons_zero, List.set_cons_succ])
            | (refine ord_qE rfl (by rfl) ?_; apply Exists.intro; refine ⟨fun w' hc' => ?_, ?_⟩; (focus (go_simp; (try go_bits); (try simp only [↓IntWalk.iteOmega]); with_reducible rfl)); simp only [Act.put, List.setIfInBounds_toArray, List.set_cons_zero, List.set_cons_succ]))
          refine ord_end ?_
          obtain ⟨V1, hV1⟩ : ∃ V, U.drew = V := ⟨_, rfl⟩
          have hg1 : U.grownBy V1 none := by rw [← hV1]; exact hG0
          have a1V : V1.cell? ⟨g, k, none⟩ = some (.int .i64 y) := by rw [← hV1]; exact a1
          have a4V : V1.cell? ⟨tb, to' + i * 5 + 4, none⟩ = some (.int .i64 rf) := by rw [← hV1]; exact a4U
          have hglV : g < V1.heap.size := by rw [← hV1]; exact hgl
          have hblV : tb < V1.heap.size := by rw [← hV1]; exact hblU
          have hRV1 : V1.ownsRow w.heap.size 3 1 (.slice (some ⟨g, 0, none⟩) m oc) m (nums out) := by rw [← hV1]; exact own_drewP HRow.out
          have HRV1 := Lib.hid hRV1
          rw [hV1]
          clear hG0 hV1 a1 a4U hgl hblU hRV1
          by_cases hye : y = rf
          · have hyd2 : (y == rf) = true := by simpa using hye
            have HYe := Lib.hid hye
            clear hye hyr hyd
            go_upto_region 9 with (fail)
            refine wp_region_ordB (none) [(0, true), (1, true), (2, true), (3, true), (4, true), (5, true), (6, true), (7, true), (8, true), (9, true), (10, true), (11, true), (12, true), (13, true), (14, true), (15, true)] (by kernel_rfl) (by kernel_rfl) fun hG0 => ?_
            repeat (first
              | (refine ord_skipB rfl (by rfl) ?_; simp only [Act.put, List.setIfInBounds_toArray, List.set_cons_zero, List.set_cons_succ])
              | (refine ord_qE rfl (by rfl) ?_; apply Exists.intro; refine ⟨fun w' hc' => ?_, ?_⟩; (focus (go_simp; (try go_bits); (try simp only [↓IntWalk.iteOmega]); with_reducible rfl)); simp only [Act.put, List.setIfInBounds_toArray, List.set_cons_zero, List.set_cons_succ]))
            refine ord_end ?_
            have hgV := grown_trans (grown_trans hgU hg1) hG0
            go_wp2
            go_roundw
            case rel => exact ⟨i + 1, _, m, oc, out, by go_num, rfl, by omega, HO.out.skip hgV HX.out (fun _ => by rw [← HYe.out]; exact List.mem_of_getElem? HY.out)⟩
            case measure => simp [intOf]; omega
          · have hyd2 : (y == rf) = false := by simpa using hye
            go_upto_region 9 with (fail)
            refine wp_region_ordB (none) [(0, true), (1, true), (2, true), (3, true), (4, true), (5, true), (6, true), (7, true), (8, true), (9, true), (10, true), (11, true), (12, true), (13, true), (14, true), (15, true)] (by kernel_rfl) (by kernel_rfl) fun hG0 => ?_
            repeat (first
              | (refine ord_skipB rfl (by rfl) ?_; simp only [Act.put, List.setIfInBounds_toArray, List.set_cons_zero, List.set_cons_succ])
              | (refine ord_qE rfl (by rfl) ?_; apply Exists.intro; refine ⟨fun w' hc' => ?_, ?_⟩; (focus (go_simp; (try go_bits); (try simp only [↓IntWalk.iteOmega]); with_reducible rfl)); simp only [Act.put, List.setIfInBounds_toArray, List.set_cons_zero, List.set_cons_succ]))
            refine ord_end ?_
            have hgV := grown_trans (grown_trans hgU hg1) hG0
            obtain ⟨V, hV⟩ : ∃ V, V1.drew = V := ⟨_, rfl⟩
            replace a4V : V.cell? ⟨tb, to' + i * 5 + 4, none⟩ = some (.int .i64 rf) := by rw [← hV]; exact a4V
            replace hblV : tb < V.heap.size := by rw [← hV]; exact hblV
            have hRV : V.ownsRow w.heap.size 3 1 (.slice (some ⟨g, 0, none⟩) m oc) m (nums out) := by rw [← hV]; exact own_drewP HRV1.out
            rw [hV] at hgV ⊢
            have hsV : w.heap.size ≤ V.heap.size := Nat.le_trans hsz hgV.size
            have hgV2 : g < V.heap.size := own_in hRV g 0 rfl
            have HRV := Lib.hid hRV
            clear hG0 hg1 hglV hV a1V hRV hyd hyd2
            have hmc : m ≤ oc := (own_row HRV.out).2.2.2.1
            have hkc : k < oc := by omega
            have hki2 : (k : Int) ≤ m := by omega
            have HPRE := Lib.hid (show V.ownsRow w.heap.size 3 1 (.slice (some ⟨g, 0, none⟩) k oc) k (nums (out.take k)) by have := own_prefix HRV.out hk; rw [Nat.mul_one, nums_take] at this; exact this)
            have hsuf : Sl V V.heap.size 1 (some ⟨g, k, none⟩) (m - k) (nums (out.drop k)) := ⟨by rw [nums_len, List.length_drop, HO.out.len, Nat.mul_one], fun _ => ⟨g, k, rfl, hgV2, by rw [← nums_drop]; have := (own_row HRV.out).1.drop k; rw [Nat.zero_add] at this; exact this⟩⟩
            have HSUF := Lib.hid hsuf
            clear hsuf
            go_upto_region 11 with (at_builtin; refine wpList_append_sl (B := V.heap.size) (m := m - k) (c2 := oc - k) (L2 := nums (out.drop k)) rfl _ _ _ rfl Tryd.intT rfl (World.ownsRow_nil V V.heap.size _ _) rfl HSUF.out (nums_one _) (by unfold maxLen; omega) (by omega) (Nat.le_refl _) ?_; intro A4 c4 w4 ho4 hg4 hat4)
            simp only [Nat.zero_add, List.nil_append] at ho4 ⊢
            have hg4w : V.grownBy w4 none := hg4
            have HP4 := Lib.hid (own_grow HPRE.out hg4w (fun q e => by cases e))
            have hs4 : w.heap.size ≤ w4.heap.size := Nat.le_trans hsV hg4w.size
            have hbl4 : tb < w4.heap.size := Nat.lt_of_lt_of_le hblV hg4w.size
            have a44 : w4.cell? ⟨tb, to' + i * 5 + 4, none⟩ = some (.int .i64 rf) := by
              rw [show w4.cell? ⟨tb, to' + i * 5 + 4, none⟩ = V.cell? ⟨tb, to' + i * 5 + 4, none⟩ by unfold World.cell?; rw [hg4w.block tb hblV (fun e => by cases e)]]
              exact a4V
            have Hn4 := Lib.hid (show ∀ q, blkOf A4 = some q → some q ≠ blkOf (some ⟨g, 0, none⟩ : Option Addr) from (fun q e e2 => (hat4 q e).elim (fun h => nomatch h) (fun h => by have e3 : q = g := (by injection e2); rw [e3] at h; omega)))
            have Hn7 := Lib.hid (show k + 1 + (m - k) = m + 1 by omega)
            have hneT : ¬ some tb = blkOf (some ⟨g, 0, none⟩ : Option Addr) := fun e => by have := own_blkP HP4.out tb e.symm; omega
            clear a4V
            go_upto_region 11 with (fail)
            refine wp_region_ordB (blkOf (some ⟨g, 0, none⟩ : Option Addr)) [(0, true), (1, true), (2, true), (3, true), (4, true), (5, true), (6, true), (7, true), (10, true), (8, false), (9, false), (11, false), (12, true)] (by kernel_rfl) (by kernel_rfl) fun hG0 => ?_
            repeat (first
              | (refine ord_skipB rfl (by rfl) ?_; simp only [Act.put, List.setIfInBounds_toArray, List.set_cons_zero, List.set_cons_succ])
              | (refine ord_qE rfl (by rfl) ?_; apply Exists.intro; refine ⟨fun w' hc' => ?_, ?_⟩; (focus (go_simp; (try go_bits); (try simp only [↓IntWalk.iteOmega]); with_reducible rfl)); simp only [Act.put, List.setIfInBounds_toArray, List.set_cons_zero, List.set_cons_succ]))
            refine ord_eB rfl fun K hK => ?_
            go_wp2_with (fail)
            have hG1 := grown_trans hG0 (World.grownBy_alloc w4.drew (.cells #[.int .i64 rf] 3) (blkOf (some ⟨g, 0, none⟩ : Option Addr)))
            refine hK.out _ _ hG1 ?_
            clear hK K
            repeat (first
              | (refine ord_skipB rfl (by rfl) ?_; simp only [Act.put, List.setIfInBounds_toArray, List.set_cons_zero, List.set_cons_succ])
              | (refine ord_qE rfl (by rfl) ?_; apply Exists.intro; refine ⟨fun w' hc' => ?_, ?_⟩; (focus (go_simp; (try go_bits); (try simp only [↓IntWalk.iteOmega]); with_reducible rfl)); simp only [Act.put, List.setIfInBounds_toArray, List.set_cons_zero, List.set_cons_succ]))
            refine ord_eB rfl fun K hK => ?_
            go_wp2_with (at_builtin; refine wpList_append_one (w := w4.drew) rfl _ _ _ rfl Tryd.intT rfl (own_drewP HP4.out) #[.int .i64 rf] rfl (by simp) rfl (by simp [Value.oneCell']) (by unfold maxLen; omega) (by omega) hs4 ?_; intro g6 c6 w6 ho6 hg6 hat6)
            have hG2 := grown_trans hG0 hg6
            refine hK.out _ _ hG2 ?_
            clear hK K
            repeat (first
              | (refine ord_skipB rfl (by rfl) ?_; simp only [Act.put, List.setIfInBounds_toArray, List.set_cons_zero, List.set_cons_succ])
              | (refine ord_qE rfl (by rfl) ?_; apply Exists.intro; refine ⟨fun w' hc' => ?_, ?_⟩; (focus (go_simp; (try go_bits); (try simp only [↓IntWalk.iteOmega]); with_reducible rfl)); simp only [Act.put, List.setIfInBounds_toArray, List.set_cons_zero, List.set_cons_succ]))
            have HR6 := Lib.hid (Sl.of_own (own_grow (own_drewP ho4) hg6 (fun q e e2 => Hn4.out q e2 e.symm)))
            refine ord_eB rfl fun K hK => ?_
            go_wp2_with (at_builtin; refine wpList_append_sl rfl _ _ _ rfl Tryd.intT rfl ho6 rfl HR6.out (nums_one _) (by unfold maxLen; omega) (by omega) (Nat.le_trans hs4 hG2.size) ?_; intro A7 c7 w7 ho7 hg7 hat7; (first | rw [Hn7.out] at ho7 ⊢ | skip))
            have hG3 := grew_own hG2 hg7 (fun g e => by injection e with e; subst e; exact hat6.imp id (fun h => Nat.le_of_lt h))
            refine hK.out _ _ hG3 ?_
            clear hK K
            repeat (first
              | (refine ord_skipB rfl (by rfl) ?_; simp only [Act.put, List.setIfInBounds_toArray, List.set_cons_zero, List.set_cons_succ])
              | (refine ord_qE rfl (by rfl) ?_; apply Exists.intro; refine ⟨fun w' hc' => ?_, ?_⟩; (focus (go_simp; (try go_bits); (try simp only [↓IntWalk.iteOmega]); with_reducible rfl)); simp only [Act.put, List.setIfInBounds_toArray, List.set_cons_zero, List.set_cons_succ]))
            refine ord_end ?_
            have hbA : Below w.heap.size w w4 := (HO.out.below.trans (below_grown (B := w.heap.size) (grown_trans hgV hg4w) hsz (fun q e => by cases e)))
            have hb7 : Below w.heap.size w w7 := hbA.trans (below_grown (B := w.heap.size) hG3 hs4 (fun q e => own_blkP HP4.out q e))
            have hq7 : OutQ xs w (i + 1) A7 (m + 1) c7 (out.take k ++ rf :: out.drop k) w7 := by
              have hl := HO.out.len
              refine ⟨by rw [nums_ins]; exact ho7, hb7, by rw [List.length_append, List.length_cons, List.length_take, List.length_drop]; omega, ins_rise HO.out.rise HLo.out (fun z hz => by rw [HY.out] at hz; injection hz with hz; omega), fun a => ?_, by omega⟩
              rw [ins_mem, HO.out.mem a, take_snoc' HX.out, wrL_snoc, if_pos rfl, List.mem_append, List.mem_singleton]
            clear ho6 ho7 hg6 hg7 hat6 hat7 hG0 hG1 hG2 hG3 ho4 hg4w
            go_wp2
            go_roundw
            case rel => exact ⟨i + 1, A7, m + 1, c7, _, by go_num, rfl, by omega, hq7⟩
            case measure => simp [intOf]; omega
      · obtain rfl : k = m := by omega
        have hkmi : ¬ (k : Int) < k := by omega
        have hkd : decide (k < k) = false := decide_eq_false hkm
        have hdr : out.drop k = [] := List.drop_of_length_le (by rw [HO.out.len]; exact Nat.le_refl _)
        have HDr := Lib.hid hdr
        clear hdr
        go_upto_region 7 with (fail)
        refine wp_region_ordB (none) [(0, true), (1, true), (2, true), (3, true), (4, true), (5, true), (6, true), (7, true), (8, true), (9, true), (10, true), (11, true), (12, true), (13, true), (14, true), (15, true)] (by kernel_rfl) (by kernel_rfl) fun hG0 => ?_
        repeat (first
          | (refine ord_skipB rfl (by rfl) ?_; simp only [Act.put, List.setIfInBounds_toArray, List.set_cons_zero, List.set_cons_succ])
          | (refine ord_qE rfl (by rfl) ?_; apply Exists.intro; refine ⟨fun w' hc' => ?_, ?_⟩; (focus (go_simp; (try go_bits); (try simp only [↓IntWalk.iteOmega]); with_reducible rfl)); simp only [Act.put, List.setIfInBounds_toArray, List.set_cons_zero, List.set_cons_succ]))
        refine ord_end ?_
        obtain ⟨V1, hV1⟩ : ∃ V, U.drew = V := ⟨_, rfl⟩
        have hg1 : U.grownBy V1 none := by rw [← hV1]; exact hG0
        have a4V : V1.cell? ⟨tb, to' + i * 5 + 4, none⟩ = some (.int .i64 rf) := by rw [← hV1]; exact a4U
        have hblV : tb < V1.heap.size := by rw [← hV1]; exact hblU
        have hRV1 : V1.ownsRow w.heap.size 3 1 (.slice OA k oc) k (nums out) := by rw [← hV1]; exact own_drewP HRow.out
        have HRV1 := Lib.hid hRV1
        rw [hV1]
        clear hG0 hV1 a4U hblU hRV1
        go_upto_region 9 with (fail)
        refine wp_region_ordB (none) [(0, true), (1, true), (2, true), (3, true), (4, true), (5, true), (6, true), (7, true), (8, true), (9, true), (10, true), (11, true), (12, true), (13, true), (14, true), (15, true)] (by kernel_rfl) (by kernel_rfl) fun hG0 => ?_
        repeat (first
          | (refine ord_skipB rfl (by rfl) ?_; simp only [Act.put, List.setIfInBounds_toArray, List.set_cons_zero, List.set_cons_succ])
          | (refine ord_qE rfl (by rfl) ?_; apply Exists.intro; refine ⟨fun w' hc' => ?_, ?_⟩; (focus (go_simp; (try go_bits); (try simp only [↓IntWalk.iteOmega]); with_reducible rfl)); simp only [Act.put, List.setIfInBounds_toArray, List.set_cons_zero, List.set_cons_succ]))
        refine ord_end ?_
        have hgV := grown_trans (grown_trans hgU hg1) hG0
        obtain ⟨V, hV⟩ : ∃ V, V1.drew = V := ⟨_, rfl⟩
        replace a4V : V.cell? ⟨tb, to' + i * 5 + 4, none⟩ = some (.int .i64 rf) := by rw [← hV]; exact a4V
        replace hblV : tb < V.heap.size := by rw [← hV]; exact hblV
        have hRV : V.ownsRow w.heap.size 3 1 (.slice OA k oc) k (nums out) := by rw [← hV]; exact own_drewP HRV1.out
        rw [hV] at hgV ⊢
        have hsV : w.heap.size ≤ V.heap.size := Nat.le_trans hsz hgV.size
        have HRV := Lib.hid hRV
        have ho4 : V.ownsRow w.heap.size 3 1 (.slice none 0 0) 0 (nums (out.drop k)) := by rw [HDr.out]; exact World.ownsRow_nil _ _ _ _
        have hg4w : V.grownBy V none := World.grownBy.refl _ _
        clear hG0 hg1 hV hRV
        rcases HRV.out.2 with ⟨e0, h0⟩ | ⟨g, cap, cur, hv, _⟩
        · injection e0 with e1 e2 e3
          subst e1 e2 e3
          have HPRE := Lib.hid (show V.ownsRow w.heap.size 3 1 (.slice none 0 0) 0 (nums (out.take 0)) from World.ownsRow_nil _ _ _ _)
          go_upto_region 11 with (fail)
          have HP4 := Lib.hid (own_grow HPRE.out hg4w (fun q e => by cases e))
          have hs4 : w.heap.size ≤ V.heap.size := Nat.le_trans hsV hg4w.size
          have hbl4 : tb < V.heap.size := Nat.lt_of_lt_of_le hblV hg4w.size
          have a44 : V.cell? ⟨tb, to' + i * 5 + 4, none⟩ = some (.int .i64 rf) := by
            rw [show V.cell? ⟨tb, to' + i * 5 + 4, none⟩ = V.cell? ⟨tb, to' + i * 5 + 4, none⟩ by unfold World.cell?; rw [hg4w.block tb hblV (fun e => by cases e)]]
            exact a4V
          have Hn4 := Lib.hid (show ∀ q, blkOf (none : Option Addr) = some q → some q ≠ blkOf (none : Option Addr) from (fun q e => nomatch e))
          have Hn7 := Lib.hid (show 0 + 1 + 0 = 0 + 1 by omega)
          have hneT : ¬ some tb = blkOf (none : Option Addr) := fun e => by have := own_blkP HP4.out tb e.symm; omega
          clear a4V
          go_upto_region 11 with (fail)
          refine wp_region_ordB (blkOf (none : Option Addr)) [(0, true), (1, true), (2, true), (3, true), (4, true), (5, true), (6, true), (7, true), (10, true), (8, false), (9, false), (11, false), (12, true)] (by kernel_rfl) (by kernel_rfl) fun hG0 => ?_
          repeat (first
            | (refine ord_skipB rfl (by rfl) ?_; simp only [Act.put, List.setIfInBounds_toArray, List.set_cons_zero, List.set_cons_succ])
            | (refine ord_qE rfl (by rfl) ?_; apply Exists.intro; refine ⟨fun w' hc' => ?_, ?_⟩; (focus (go_simp; (try go_bits); (try simp only [↓IntWalk.iteOmega]); with_reducible rfl)); simp only [Act.put, List.setIfInBounds_toArray, List.set_cons_zero, List.set_cons_succ]))
          refine ord_eB rfl fun K hK => ?_
          go_wp2_with (fail)
          have hG1 := grown_trans hG0 (World.grownBy_alloc V.drew (.cells #[.int .i64 rf] 3) (blkOf (none : Option Addr)))
          refine hK.out _ _ hG1 ?_
          clear hK K
          repeat (first
            | (refine ord_skipB rfl (by rfl) ?_; simp only [Act.put, List.setIfInBounds_toArray, List.set_cons_zero, List.set_cons_succ])
            | (refine ord_qE rfl (by rfl) ?_; apply Exists.intro; refine ⟨fun w' hc' => ?_, ?_⟩; (focus (go_simp; (try go_bits); (try simp only [↓IntWalk.iteOmega]); with_reducible rfl)); simp only [Act.put, List.setIfInBounds_toArray, List.set_cons_zero, List.set_cons_succ]))
          refine ord_eB rfl fun K hK => ?_
          go_wp2_with (at_builtin; refine wpList_append_one (w := V.drew) rfl _ _ _ rfl Tryd.intT rfl (own_drewP HP4.out) #[.int .i64 rf] rfl (by simp) rfl (by simp [Value.oneCell']) (by unfold maxLen; omega) (by omega) hs4 ?_; intro g6 c6 w6 ho6 hg6 hat6)
          have hG2 := grown_trans hG0 hg6
          refine hK.out _ _ hG2 ?_
          clear hK K
          repeat (first
            | (refine ord_skipB rfl (by rfl) ?_; simp only [Act.put, List.setIfInBounds_toArray, List.set_cons_zero, List.set_cons_succ])
            | (refine ord_qE rfl (by rfl) ?_; apply Exists.intro; refine ⟨fun w' hc' => ?_, ?_⟩; (focus (go_simp; (try go_bits); (try simp only [↓IntWalk.iteOmega]); with_reducible rfl)); simp only [Act.put, List.setIfInBounds_toArray, List.set_cons_zero, List.set_cons_succ]))
          have HR6 := Lib.hid (Sl.of_own (own_grow (own_drewP ho4) hg6 (fun q e e2 => Hn4.out q e2 e.symm)))
          refine ord_eB rfl fun K hK => ?_
          go_wp2_with (at_builtin; refine wpList_append_sl rfl _ _ _ rfl Tryd.intT rfl ho6 rfl HR6.out (nums_one _) (by unfold maxLen; omega) (by omega) (Nat.le_trans hs4 hG2.size) ?_; intro A7 c7 w7 ho7 hg7 hat7; (first | rw [Hn7.out] at ho7 ⊢ | skip))
          have hG3 := grew_own hG2 hg7 (fun g e => by injection e with e; subst e; exact hat6.imp id (fun h => Nat.le_of_lt h))
          refine hK.out _ _ hG3 ?_
          clear hK K
          repeat (first
            | (refine ord_skipB rfl (by rfl) ?_; simp only [Act.put, List.setIfInBounds_toArray, List.set_cons_zero, List.set_cons_succ])
            | (refine ord_qE rfl (by rfl) ?_; apply Exists.intro; refine ⟨fun w' hc' => ?_, ?_⟩; (focus (go_simp; (try go_bits); (try simp only [↓IntWalk.iteOmega]); with_reducible rfl)); simp only [Act.put, List.setIfInBounds_toArray, List.set_cons_zero, List.set_cons_succ]))
          refine ord_end ?_
          have hbA : Below w.heap.size w V := (HO.out.below.trans (below_grown (B := w.heap.size) (grown_trans hgV hg4w) hsz (fun q e => by cases e)))
          have hb7 : Below w.heap.size w w7 := hbA.trans (below_grown (B := w.heap.size) hG3 hs4 (fun q e => own_blkP HP4.out q e))
          have hq7 : OutQ xs w (i + 1) A7 (0 + 1) c7 (out.take 0 ++ rf :: out.drop 0) w7 := by
            have hl := HO.out.len
            refine ⟨by rw [nums_ins]; exact ho7, hb7, by rw [List.length_append, List.length_cons, List.length_take, List.length_drop]; omega, ins_rise HO.out.rise HLo.out (fun z hz => by have hz2 := (List.getElem?_eq_some_iff.1 hz).1; have := HO.out.len; omega), fun a => ?_, by omega⟩
            rw [ins_mem, HO.out.mem a, take_snoc' HX.out, wrL_snoc, if_pos rfl, List.mem_append, List.mem_singleton]
          clear ho6 ho7 hg6 hg7 hat6 hat7 hG0 hG1 hG2 hG3 ho4 hg4w
          go_wp2
          go_roundw
          case rel => exact ⟨i + 1, A7, 0 + 1, c7, _, by go_num, rfl, by omega, hq7⟩
          case measure => simp [intOf]; omega
        · injection hv with h1 _ h3
          subst h1 h3
          have hmc : k ≤ oc := (own_row HRV.out).2.2.2.1
          have hki2 : (k : Int) ≤ k := by omega
          have hgV2 : g < V.heap.size := own_in HRV.out g 0 rfl
          have HPRE := Lib.hid (show V.ownsRow w.heap.size 3 1 (.slice (some ⟨g, 0, none⟩) k oc) k (nums (out.take k)) by have := own_prefix HRV.out (Nat.le_refl k); rw [Nat.mul_one, nums_take] at this; exact this)
          by_cases hkc : k < oc
          · go_upto_region 11 with (fail)
            have HP4 := Lib.hid (own_grow HPRE.out hg4w (fun q e => by cases e))
            have hs4 : w.heap.size ≤ V.heap.size := Nat.le_trans hsV hg4w.size
            have hbl4 : tb < V.heap.size := Nat.lt_of_lt_of_le hblV hg4w.size
            have a44 : V.cell? ⟨tb, to' + i * 5 + 4, none⟩ = some (.int .i64 rf) := by
              rw [show V.cell? ⟨tb, to' + i * 5 + 4, none⟩ = V.cell? ⟨tb, to' + i * 5 + 4, none⟩ by unfold World.cell?; rw [hg4w.block tb hblV (fun e => by cases e)]]
              exact a4V
            have Hn4 := Lib.hid (show ∀ q, blkOf (none : Option Addr) = some q → some q ≠ blkOf (some ⟨g, 0, none⟩ : Option Addr) from (fun q e => nomatch e))
            have Hn7 := Lib.hid (show k + 1 + 0 = k + 1 by omega)
            have hneT : ¬ some tb = blkOf (some ⟨g, 0, none⟩ : Option Addr) := fun e => by have := own_blkP HP4.out tb e.symm; omega
            clear a4V
            go_upto_region 11 with (fail)
            refine wp_region_ordB (blkOf (some ⟨g, 0, none⟩ : Option Addr)) [(0, true), (1, true), (2, true), (3, true), (4, true), (5, true), (6, true), (7, true), (10, true), (8, false), (9, false), (11, false), (12, true)] (by kernel_rfl) (by kernel_rfl) fun hG0 => ?_
            repeat (first
              | (refine ord_skipB rfl (by rfl) ?_; simp only [Act.put, List.setIfInBounds_toArray, List.set_cons_zero, List.set_cons_succ])
              | (refine ord_qE rfl (by rfl) ?_; apply Exists.intro; refine ⟨fun w' hc' => ?_, ?_⟩; (focus (go_simp; (try go_bits); (try simp only [↓IntWalk.iteOmega]); with_reducible rfl)); simp only [Act.put, List.setIfInBounds_toArray, List.set_cons_zero, List.set_cons_succ]))
            refine ord_eB rfl fun K hK => ?_
            go_wp2_with (fail)
            have hG1 := grown_trans hG0 (World.grownBy_alloc V.drew (.cells #[.int .i64 rf] 3) (blkOf (some ⟨g, 0, none⟩ : Option Addr)))
            refine hK.out _ _ hG1 ?_
            clear hK K
            repeat (first
              | (refine ord_skipB rfl (by rfl) ?_; simp only [Act.put, List.setIfInBounds_toArray, List.set_cons_zero, List.set_cons_succ])
              | (refine ord_qE rfl (by rfl) ?_; apply Exists.intro; refine ⟨fun w' hc' => ?_, ?_⟩; (focus (go_simp; (try go_bits); (try simp only [↓IntWalk.iteOmega]); with_reducible rfl)); simp only [Act.put, List.setIfInBounds_toArray, List.set_cons_zero, List.set_cons_succ]))
            refine ord_eB rfl fun K hK => ?_
            go_wp2_with (at_builtin; refine wpList_append_one (w := V.drew) rfl _ _ _ rfl Tryd.intT rfl (own_drewP HP4.out) #[.int .i64 rf] rfl (by simp) rfl (by simp [Value.oneCell']) (by unfold maxLen; omega) (by omega) hs4 ?_; intro g6 c6 w6 ho6 hg6 hat6)
            have hG2 := grown_trans hG0 hg6
            refine hK.out _ _ hG2 ?_
            clear hK K
            repeat (first
              | (refine ord_skipB rfl (by rfl) ?_; simp only [Act.put, List.setIfInBounds_toArray, List.set_cons_zero, List.set_cons_succ])
              | (refine ord_qE rfl (by rfl) ?_; apply Exists.intro; refine ⟨fun w' hc' => ?_, ?_⟩; (focus (go_simp; (try go_bits); (try simp only [↓IntWalk.iteOmega]); with_reducible rfl)); simp only [Act.put, List.setIfInBounds_toArray, List.set_cons_zero, List.set_cons_succ]))
            have HR6 := Lib.hid (Sl.of_own (own_grow (own_drewP ho4) hg6 (fun q e e2 => Hn4.out q e2 e.symm)))
            refine ord_eB rfl fun K hK => ?_
            go_wp2_with (at_builtin; refine wpList_append_sl rfl _ _ _ rfl Tryd.intT rfl ho6 rfl HR6.out (nums_one _) (by unfold maxLen; omega) (by omega) (Nat.le_trans hs4 hG2.size) ?_; intro A7 c7 w7 ho7 hg7 hat7; (first | rw [Hn7.out] at ho7 ⊢ | skip))
            have hG3 := grew_own hG2 hg7 (fun g e => by injection e with e; subst e; exact hat6.imp id (fun h => Nat.le_of_lt h))
            refine hK.out _ _ hG3 ?_
            clear hK K
            repeat (first
              | (refine ord_skipB rfl (by rfl) ?_; simp only [Act.put, List.setIfInBounds_toArray, List.set_cons_zero, List.set_cons_succ])
              | (refine ord_qE rfl (by rfl) ?_; apply Exists.intro; refine ⟨fun w' hc' => ?_, ?_⟩; (focus (go_simp; (try go_bits); (try simp only [↓IntWalk.iteOmega]); with_reducible rfl)); simp only [Act.put, List.setIfInBounds_toArray, List.set_cons_zero, List.set_cons_succ]))
            refine ord_end ?_
            have hbA : Below w.heap.size w V := (HO.out.below.trans (below_grown (B := w.heap.size) (grown_trans hgV hg4w) hsz (fun q e => by cases e)))
            have hb7 : Below w.heap.size w w7 := hbA.trans (below_grown (B := w.heap.size) hG3 hs4 (fun q e => own_blkP HP4.out q e))
            have hq7 : OutQ xs w (i + 1) A7 (k + 1) c7 (out.take k ++ rf :: out.drop k) w7 := by
              have hl := HO.out.len
              refine ⟨by rw [nums_ins]; exact ho7, hb7, by rw [List.length_append, List.length_cons, List.length_take, List.length_drop]; omega, ins_rise HO.out.rise HLo.out (fun z hz => by have hz2 := (List.getElem?_eq_some_iff.1 hz).1; have := HO.out.len; omega), fun a => ?_, by omega⟩
              rw [ins_mem, HO.out.mem a, take_snoc' HX.out, wrL_snoc, if_pos rfl, List.mem_append, List.mem_singleton]
            clear ho6 ho7 hg6 hg7 hat6 hat7 hG0 hG1 hG2 hG3 ho4 hg4w
            go_wp2
            go_roundw
            case rel => exact ⟨i + 1, A7, k + 1, c7, _, by go_num, rfl, by omega, hq7⟩
            case measure => simp [intOf]; omega
          · obtain rfl : k = oc := by omega
            go_upto_region 11 with (fail)
            have HP4 := Lib.hid (own_grow HPRE.out hg4w (fun q e => by cases e))
            have hs4 : w.heap.size ≤ V.heap.size := Nat.le_trans hsV hg4w.size
            have hbl4 : tb < V.heap.size := Nat.lt_of_lt_of_le hblV hg4w.size
            have a44 : V.cell? ⟨tb, to' + i * 5 + 4, none⟩ = some (.int .i64 rf) := by
              rw [show V.cell? ⟨tb, to' + i * 5 + 4, none⟩ = V.cell? ⟨tb, to' + i * 5 + 4, none⟩ by unfold World.cell?; rw [hg4w.block tb hblV (fun e => by cases e)]]
              exact a4V
            have Hn4 := Lib.hid (show ∀ q, blkOf (none : Option Addr) = some q → some q ≠ blkOf (some ⟨g, 0, none⟩ : Option Addr) from (fun q e => nomatch e))
            have Hn7 := Lib.hid (show k + 1 + 0 = k + 1 by omega)
            have hneT : ¬ some tb = blkOf (some ⟨g, 0, none⟩ : Option Addr) := fun e => by have := own_blkP HP4.out tb e.symm; omega
            clear a4V
            go_upto_region 11 with (fail)
            refine wp_region_ordB (blkOf (some ⟨g, 0, none⟩ : Option Addr)) [(0, true), (1, true), (2, true), (3, true), (4, true), (5, true), (6, true), (7, true), (10, true), (8, false), (9, false), (11, false), (12, true)] (by kernel_rfl) (by kernel_rfl) fun hG0 => ?_
            repeat (first
              | (refine ord_skipB rfl (by rfl) ?_; simp only [Act.put, List.setIfInBounds_toArray, List.set_cons_zero, List.set_cons_succ])
              | (refine ord_qE rfl (by rfl) ?_; apply Exists.intro; refine ⟨fun w' hc' => ?_, ?_⟩; (focus (go_simp; (try go_bits); (try simp only [↓IntWalk.iteOmega]); with_reducible rfl)); simp only [Act.put, List.setIfInBounds_toArray, List.set_cons_zero, List.set_cons_succ]))
            refine ord_eB rfl fun K hK => ?_
            go_wp2_with (fail)
            have hG1 := grown_trans hG0 (World.grownBy_alloc V.drew (.cells #[.int .i64 rf] 3) (blkOf (some ⟨g, 0, none⟩ : Option Addr)))
            refine hK.out _ _ hG1 ?_
            clear hK K
            repeat (first
              | (refine ord_skipB rfl (by rfl) ?_; simp only [Act.put, List.setIfInBounds_toArray, List.set_cons_zero, List.set_cons_succ])
              | (refine ord_qE rfl (by rfl) ?_; apply Exists.intro; refine ⟨fun w' hc' => ?_, ?_⟩; (focus (go_simp; (try go_bits); (try simp only [↓IntWalk.iteOmega]); with_reducible rfl)); simp only [Act.put, List.setIfInBounds_toArray, List.set_cons_zero, List.set_cons_succ]))
            refine ord_eB rfl fun K hK => ?_
            go_wp2_with (at_builtin; refine wpList_append_one (w := V.drew) rfl _ _ _ rfl Tryd.intT rfl (own_drewP HP4.out) #[.int .i64 rf] rfl (by simp) rfl (by simp [Value.oneCell']) (by unfold maxLen; omega) (by omega) hs4 ?_; intro g6 c6 w6 ho6 hg6 hat6)
            have hG2 := grown_trans hG0 hg6
            refine hK.out _ _ hG2 ?_
            clear hK K
            repeat (first
              | (refine ord_skipB rfl (by rfl) ?_; simp only [Act.put, List.setIfInBounds_toArray, List.set_cons_zero, List.set_cons_succ])
              | (refine ord_qE rfl (by rfl) ?_; apply Exists.intro; refine ⟨fun w' hc' => ?_, ?_⟩; (focus (go_simp; (try go_bits); (try simp only [↓IntWalk.iteOmega]); with_reducible rfl)); simp only [Act.put, List.setIfInBounds_toArray, List.set_cons_zero, List.set_cons_succ]))
            have HR6 := Lib.hid (Sl.of_own (own_grow (own_drewP ho4) hg6 (fun q e e2 => Hn4.out q e2 e.symm)))
            refine ord_eB rfl fun K hK => ?_
            go_wp2_with (at_builtin; refine wpList_append_sl rfl _ _ _ rfl Tryd.intT rfl ho6 rfl HR6.out (nums_one _) (by unfold maxLen; omega) (by omega) (Nat.le_trans hs4 hG2.size) ?_; intro A7 c7 w7 ho7 hg7 hat7; (first | rw [Hn7.out] at ho7 ⊢ | skip))
            have hG3 := grew_own hG2 hg7 (fun g e => by injection e with e; subst e; exact hat6.imp id (fun h => Nat.le_of_lt h))
            refine hK.out _ _ hG3 ?_
            clear hK K
            repeat (first
              | (refine ord_skipB rfl (by rfl) ?_; simp only [Act.put, List.setIfInBounds_toArray, List.set_cons_zero, List.set_cons_succ])
              | (refine ord_qE rfl (by rfl) ?_; apply Exists.intro; refine ⟨fun w' hc' => ?_, ?_⟩; (focus (go_simp; (try go_bits); (try simp only [↓IntWalk.iteOmega]); with_reducible rfl)); simp only [Act.put, List.setIfInBounds_toArray, List.set_cons_zero, List.set_cons_succ]))
            refine ord_end ?_
            have hbA : Below w.heap.size w V := (HO.out.below.trans (below_grown (B := w.heap.size) (grown_trans hgV hg4w) hsz (fun q e => by cases e)))
            have hb7 : Below w.heap.size w w7 := hbA.trans (below_grown (B := w.heap.size) hG3 hs4 (fun q e => own_blkP HP4.out q e))
            have hq7 : OutQ xs w (i + 1) A7 (k + 1) c7 (out.take k ++ rf :: out.drop k) w7 := by
              have hl := HO.out.len
              refine ⟨by rw [nums_ins]; exact ho7, hb7, by rw [List.length_append, List.length_cons, List.length_take, List.length_drop]; omega, ins_rise HO.out.rise HLo.out (fun z hz => by have hz2 := (List.getElem?_eq_some_iff.1 hz).1; have := HO.out.len; omega), fun a => ?_, by omega⟩
              rw [ins_mem, HO.out.mem a, take_snoc' HX.out, wrL_snoc, if_pos rfl, List.mem_append, List.mem_singleton]
            clear ho6 ho7 hg6 hg7 hat6 hat7 hG0 hG1 hG2 hG3 ho4 hg4w
            go_wp2
            go_roundw
            case rel => exact ⟨i + 1, A7, k + 1, c7, _, by go_num, rfl, by omega, hq7⟩
            case measure => simp [intOf]; omega
    · have h6i : (op != 6) = true := by simpa using h6
      have H6 := Lib.hid h6
      clear h6
      go_wp2
      go_roundw
      case rel => exact ⟨i + 1, OA, m, oc, out, by go_num, rfl, by omega, HO.out.skip (World.grownBy.refl _ _) HX.out (fun e => absurd e H6.out)⟩
      case measure => simp [intOf]; omega
  · obtain rfl : i = n := by omega
    have hki : ¬ (i : Int) < i := by omega
    go_wp2
    go_ret
    exact ⟨OA, m, oc, out, rfl, by rw [HN.out]; exact HO.out⟩
end Go.Proofs.YtgeiegjpnnbloaaDoor
