/- shuntref19.body. -/
import Derived.Test.YtgeiegjpnnbloaaDoorBodyP
import Derived.Test.YtgeiegjpnnbloaaDoorInsG
namespace Go.Proofs.YtgeiegjpnnbloaaDoor
open Go.ChangeShapes Go.WideShapes Go.ChangeAt Go.ChangeMaps Go.RowKit Go.Deep

theorem insT5 : (Tryd.prog.info? 42).map (·.size) = some 5 := by kernel_rfl
def BodyCut (W : World) (op md rf : Nat) (p : Value) (wx : World) : Prop := ∃ g, p = .pointer (some ⟨g, 0, none⟩) ∧ Blk wx g 42 #[.int .i64 op, .string ⟨#[]⟩, .string ⟨#[]⟩, .int .i64 md, .int .i64 rf] ∧ W.heap.size ≤ g ∧ Below W.heap.size W wx
def BodyRes (r : List UInt8) (w : World) (e : Ending) (w' : World) : Prop :=
  ∃ (x : Ins) (ok : Bool), e = .returned (.tuple #[.agg x.cells, .bool ok]) ∧ Below w.heap.size w w' ∧ (ok = true → FitI x ∧ bodyL x = r) ∧ (ok = false → ∀ y, FitI y → bodyL y ≠ r)
theorem rget_b (l : List UInt8) (A : Option Addr) (n c at_ k : Nat) (w : World) (hA : Sl w w.heap.size 1 A n (l.flatMap u8L)) (hn : l.length = n) (hm : n ≤ 1000000) (hk : at_ + k ≤ n) (hk4 : k ≤ 4) {v : Nat} (hv : deN ((l.drop at_).take k) = v) :
    Calls Tryd.prog 14 #[.slice A n c, .int .i64 at_, .int .i64 k] w fun e w' => e = .returned (.int .i64 (v : Nat)) ∧ Below w.heap.size w w' := by
  subst hv
  refine (rget_any l A n c at_ k w hA hn hm hk hk4).mono ?_
  rintro e w' ⟨he, rfl⟩
  exact ⟨he, Below.refl _ _⟩
set_option maxRecDepth 100000 in
set_option maxHeartbeats 8000000 in
theorem body_any (r : List UInt8) (A : Option Addr) (n c : Nat) (w : World) (hA : Sl w w.heap.size 1 A n (r.flatMap u8L)) (hn : r.length = n) (h7 : 7 ≤ n) (hm : n ≤ 255) (hnc : n ≤ c) (hcm : c ≤ maxLen) :
    Calls Tryd.prog 29 #[.slice A n c] w (BodyRes r w) := by
  unfold maxLen at hcm
  obtain ⟨op, hop⟩ : ∃ x, deN (r.take 1) = x := ⟨_, rfl⟩
  obtain ⟨md, hmd⟩ : ∃ x, deN ((r.drop 1).take 2) = x := ⟨_, rfl⟩
  obtain ⟨rf, hrf⟩ : ∃ x, deN ((r.drop 3).take 2) = x := ⟨_, rfl⟩
  obtain ⟨p, hp⟩ : ∃ x, deN ((r.drop 5).take 1) = x := ⟨_, rfl⟩
  have HOp := Lib.hid hop; have HMd := Lib.hid hmd; have HRf := Lib.hid hrf; have HPp := Lib.hid hp
  have hone : ∀ (k : Nat) (x : UInt8), r[k]? = some x → deN ((r.drop k).take 1) = x.toNat := fun k x hx => by
    have hk := (List.getElem?_eq_some_iff.1 hx).1
    rw [List.drop_eq_getElem_cons hk]
    have : r[k] = x := (List.getElem?_eq_some_iff.1 hx).2
    rw [this]
    rfl
  have HOne := Lib.hid hone
  obtain ⟨W, hW⟩ : ∃ W, W = w.alloc (.cells #[.int .i64 0, .string ⟨#[]⟩, .string ⟨#[]⟩, .int .i64 0, .int .i64 0] 42) := ⟨_, rfl⟩
  have hb0 : Below w.heap.size w W := by rw [hW]; exact (Below.refl _ _).alloc (Nat.le_refl _) _
  have hR0 : Blk W w.heap.size 42 #[.int .i64 0, .string ⟨#[]⟩, .string ⟨#[]⟩, .int .i64 0, .int .i64 0] := by rw [hW]; exact Blk.new w _ _
  have HW := Lib.hid hW
  have hs0 := hb0.size
  have hAW := (hA.below hb0 (Nat.le_refl _)).more hs0
  have HA := Lib.hid hAW; have HN := Lib.hid hn
  have HA0 := Lib.hid hA
  obtain ⟨b, o, x0, hAeq, hbl, hx0, hc0⟩ := hA.get (f := u8L) (fun _ => rfl) hn (show 0 < n by omega)
  clear hW hop hmd hrf hp hone hA hAW hn hc0 hx0 x0
  subst hAeq
  have cellA : ∀ (W' : World), Below w.heap.size w W' → ∀ k, k < n → ∃ x : UInt8, r[k]? = some x ∧ W'.cell? ⟨b, o + k, none⟩ = some (.int .u8 (x.toNat : Nat)) := fun W' hb' k hk => by
    obtain ⟨b', o', x, e, _, hx, hc⟩ := (HA0.out.below hb' (Nat.le_refl _)).get (f := u8L) (fun _ => rfl) HN.out hk
    injection e with e
    injection e with e1 e2
    subst e1 e2
    exact ⟨x, hx, by have := hc 0 _ rfl; simpa using this⟩
  have CellA := Lib.hid cellA
  clear cellA
  go_enter Tryd.func29, Tryd.ntmps29
  go_upto_region 1 with (fail)
  rw [← HW.out]
  obtain ⟨x0, hx0, a0⟩ := CellA.out W hb0 0 (by omega)
  have hx0' : x0.toNat = op := by rw [← HOne.out 0 x0 hx0, List.drop_zero, HOp.out]
  rw [hx0', Nat.add_zero] at a0
  have hbW : b < W.heap.size := by omega
  have hopl : op < 256 := by rw [← hx0']; exact x0.toNat_lt
  have hwo : wrap64 (op : Int) = op := by unfold wrap64; omega
  clear hx0 hx0' x0
  go_cut [4] from 7 to 15 (fun p wx => BodyCut W op md rf p wx)
  case first =>
    refine wp_region_T none (.q 0 (.q 1 (.q 2 (.q 3 (.q 4 (.q 6 (.e2 5 9 (.e2 7 9 (.q 8 (.e1 9 (.e1 10 .done))) (.e1 7 (.q 8 (.e1 10 .done)))) (.e1 5 (.e1 7 (.q 8 (.e1 10 .done))))))))))) (by kernel_rfl) (by kernel_rfl) fun hG0 => ?_
    repeat (first
      | (refine tree_skip rfl (by rfl) ?_; simp only [Act.put, List.setIfInBounds_toArray, List.set_cons_zero, List.set_cons_succ])
      | (refine tree_qE rfl (by rfl) ?_; apply Exists.intro; refine ⟨fun w' hc' => ?_, ?_⟩; (focus (go_simp; (try go_bits); (try simp only [↓IntWalk.iteOmega]); with_reducible rfl)); simp only [Act.put, List.setIfInBounds_toArray, List.set_cons_zero, List.set_cons_succ]))
    refine tree_e2 (tree_step rfl fun K hK => ?_) (tree_step rfl fun K hK => ?_)
    · have hBc := below_grown hG0 (Nat.le_refl _) (fun g e => by cases e)
      go_wp2_with (go_at_call 14; refine (rget_b r _ n c 1 2 _ ((HA.out.below hBc (Nat.le_refl _)).more hBc.size) HN.out (by omega) (by omega) (by omega) HMd.out).mono ?_; rintro e w5 ⟨rfl, hb5⟩)
      have hG1 := grown_trans hG0 (grown_below hb5 (Nat.le_refl _))
      refine hK.out _ _ hG1 ?_
      clear hK K hBc
      refine tree_e2 (tree_step rfl fun K hK => ?_) (tree_step rfl fun K hK => ?_)
      · have hBc := below_grown hG1 (Nat.le_refl _) (fun g e => by cases e)
        go_wp2_with (go_at_call 14; refine (rget_b r _ n c 3 2 _ ((HA.out.below hBc (Nat.le_refl _)).more hBc.size) HN.out (by omega) (by omega) (by omega) HRf.out).mono ?_; rintro e w7 ⟨rfl, hb7⟩)
        have hG2 := grown_trans hG1 (grown_below hb7 (Nat.le_refl _))
        refine hK.out _ _ hG2 ?_
        clear hK K hBc
        repeat (first
          | (refine tree_skip rfl (by rfl) ?_; simp only [Act.put, List.setIfInBounds_toArray, List.set_cons_zero, List.set_cons_succ])
          | (refine tree_qE rfl (by rfl) ?_; apply Exists.intro; refine ⟨fun w' hc' => ?_, ?_⟩; (focus (go_simp; (try go_bits); (try simp only [↓IntWalk.iteOmega]); with_reducible rfl)); simp only [Act.put, List.setIfInBounds_toArray, List.set_cons_zero, List.set_cons_succ]))
        refine tree_e1 (tree_step rfl fun K hK => ?_)
        have hZ : Blk (World.alloc (w7) (.cells #[.int .i64 0, .string ⟨#[]⟩, .string ⟨#[]⟩, .int .i64 0, .int .i64 0] 42)) (w7.heap.size) 42 #[.int .i64 0, .string ⟨#[]⟩, .string ⟨#[]⟩, .int .i64 0, .int .i64 0] := Blk.new (w7) 42 #[.int .i64 0, .string ⟨#[]⟩, .string ⟨#[]⟩, .int .i64 0, .int .i64 0]
        have hzs : W.heap.size ≤ w7.heap.size := by first | exact Nat.le_refl _ | exact hG2.size
        go_wp2_with (fail)
        have hG3 := grown_trans hG2 (World.grownBy_alloc (w7) (.cells #[.int .i64 0, .string ⟨#[]⟩, .string ⟨#[]⟩, .int .i64 0, .int .i64 0] 42) none)
        refine hK.out _ _ hG3 ?_
        clear hK K
        refine tree_e1 (tree_step rfl fun K hK => ?_)
        go_wp2_with (fail)
        have hG4 := grown_trans hG2 (World.grownBy_alloc (w7) (.cells #[.int .i64 op, .string ⟨#[]⟩, .string ⟨#[]⟩, .int .i64 md, .int .i64 rf] 42) none)
        have hB9 := Blk.new (w7) 42 #[.int .i64 op, .string ⟨#[]⟩, .string ⟨#[]⟩, .int .i64 md, .int .i64 rf]
        refine hK.out _ _ hG4 ?_
        clear hK K
        refine tree_end ?_
        have hGL := hG4
        go_wp2_with (fail)
        go_meet
        exact ⟨_, rfl, hB9, by first | exact hzs | omega, below_grown hGL (Nat.le_refl _) (fun g e => by cases e)⟩
      · have hZ : Blk (World.alloc (w5) (.cells #[.int .i64 0, .string ⟨#[]⟩, .string ⟨#[]⟩, .int .i64 0, .int .i64 0] 42)) (w5.heap.size) 42 #[.int .i64 0, .string ⟨#[]⟩, .string ⟨#[]⟩, .int .i64 0, .int .i64 0] := Blk.new (w5) 42 #[.int .i64 0, .string ⟨#[]⟩, .string ⟨#[]⟩, .int .i64 0, .int .i64 0]
        have hzs : W.heap.size ≤ w5.heap.size := by first | exact Nat.le_refl _ | exact hG1.size
        go_wp2_with (fail)
        have hG2 := grown_trans hG1 (World.grownBy_alloc (w5) (.cells #[.int .i64 0, .string ⟨#[]⟩, .string ⟨#[]⟩, .int .i64 0, .int .i64 0] 42) none)
        refine hK.out _ _ hG2 ?_
        clear hK K
        refine tree_e1 (tree_step rfl fun K hK => ?_)
        have hBc := below_grown hG2 (Nat.le_refl _) (fun g e => by cases e)
        go_wp2_with (go_at_call 14; refine (rget_b r _ n c 3 2 _ ((HA.out.below hBc (Nat.le_refl _)).more hBc.size) HN.out (by omega) (by omega) (by omega) HRf.out).mono ?_; rintro e w7 ⟨rfl, hb7⟩)
        have hG3 := grown_trans hG2 (grown_below hb7 (Nat.le_refl _))
        refine hK.out _ _ hG3 ?_
        clear hK K hBc
        replace hZ := hZ.below hb7 hZ.lt
        repeat (first
          | (refine tree_skip rfl (by rfl) ?_; simp only [Act.put, List.setIfInBounds_toArray, List.set_cons_zero, List.set_cons_succ])
          | (refine tree_qE rfl (by rfl) ?_; apply Exists.intro; refine ⟨fun w' hc' => ?_, ?_⟩; (focus (go_simp; (try go_bits); (try simp only [↓IntWalk.iteOmega]); with_reducible rfl)); simp only [Act.put, List.setIfInBounds_toArray, List.set_cons_zero, List.set_cons_succ]))
        refine tree_e1 (tree_step rfl fun K hK => ?_)
        go_wp2_with (refine wpList_store_blk rfl 42 (.tmp 4) (.tmp 15) rfl hZ #[.int .i64 op, .string ⟨#[]⟩, .string ⟨#[]⟩, .int .i64 md, .int .i64 rf] rfl rfl (insT5) rfl (by simp [Value.oneCell']) ?_; intro w9 hB9 hg9 hs9)
        have hG4 : W.grownBy w9 none := grown_below ((below_grown hG3 (Nat.le_refl _) (fun g e => by cases e)).trans (below_grown hg9 hG3.size (fun g e => by injection e with e; omega))) (Nat.le_refl _)
        refine hK.out _ _ hG4 ?_
        clear hK K
        refine tree_end ?_
        have hGL := hG4
        go_wp2_with (fail)
        go_meet
        exact ⟨_, rfl, hB9, by first | exact hzs | omega, below_grown hGL (Nat.le_refl _) (fun g e => by cases e)⟩
    · have hZ : Blk (World.alloc (W.drew) (.cells #[.int .i64 0, .string ⟨#[]⟩, .string ⟨#[]⟩, .int .i64 0, .int .i64 0] 42)) (W.heap.size) 42 #[.int .i64 0, .string ⟨#[]⟩, .string ⟨#[]⟩, .int .i64 0, .int .i64 0] := Blk.new (W.drew) 42 #[.int .i64 0, .string ⟨#[]⟩, .string ⟨#[]⟩, .int .i64 0, .int .i64 0]
      have hzs : W.heap.size ≤ W.heap.size := by first | exact Nat.le_refl _ | exact hG0.size
      go_wp2_with (fail)
      have hG1 := grown_trans hG0 (World.grownBy_alloc (W.drew) (.cells #[.int .i64 0, .string ⟨#[]⟩, .string ⟨#[]⟩, .int .i64 0, .int .i64 0] 42) none)
      refine hK.out _ _ hG1 ?_
      clear hK K
      refine tree_e1 (tree_step rfl fun K hK => ?_)
      have hBc := below_grown hG1 (Nat.le_refl _) (fun g e => by cases e)
      go_wp2_with (go_at_call 14; refine (rget_b r _ n c 1 2 _ ((HA.out.below hBc (Nat.le_refl _)).more hBc.size) HN.out (by omega) (by omega) (by omega) HMd.out).mono ?_; rintro e w5 ⟨rfl, hb5⟩)
      have hG2 := grown_trans hG1 (grown_below hb5 (Nat.le_refl _))
      refine hK.out _ _ hG2 ?_
      clear hK K hBc
      replace hZ := hZ.below hb5 hZ.lt
      refine tree_e1 (tree_step rfl fun K hK => ?_)
      have hBc := below_grown hG2 (Nat.le_refl _) (fun g e => by cases e)
      go_wp2_with (go_at_call 14; refine (rget_b r _ n c 3 2 _ ((HA.out.below hBc (Nat.le_refl _)).more hBc.size) HN.out (by omega) (by omega) (by omega) HRf.out).mono ?_; rintro e w7 ⟨rfl, hb7⟩)
      have hG3 := grown_trans hG2 (grown_below hb7 (Nat.le_refl _))
      refine hK.out _ _ hG3 ?_
      clear hK K hBc
      replace hZ := hZ.below hb7 hZ.lt
      repeat (first
        | (refine tree_skip rfl (by rfl) ?_; simp only [Act.put, List.setIfInBounds_toArray, List.set_cons_zero, List.set_cons_succ])
        | (refine tree_qE rfl (by rfl) ?_; apply Exists.intro; refine ⟨fun w' hc' => ?_, ?_⟩; (focus (go_simp; (try go_bits); (try simp only [↓IntWalk.iteOmega]); with_reducible rfl)); simp only [Act.put, List.setIfInBounds_toArray, List.set_cons_zero, List.set_cons_succ]))
      refine tree_e1 (tree_step rfl fun K hK => ?_)
      go_wp2_with (refine wpList_store_blk rfl 42 (.tmp 4) (.tmp 15) rfl hZ #[.int .i64 op, .string ⟨#[]⟩, .string ⟨#[]⟩, .int .i64 md, .int .i64 rf] rfl rfl (insT5) rfl (by simp [Value.oneCell']) ?_; intro w9 hB9 hg9 hs9)
      have hG4 : W.grownBy w9 none := grown_below ((below_grown hG3 (Nat.le_refl _) (fun g e => by cases e)).trans (below_grown hg9 hG3.size (fun g e => by injection e with e; omega))) (Nat.le_refl _)
      refine hK.out _ _ hG4 ?_
      clear hK K
      refine tree_end ?_
      have hGL := hG4
      go_wp2_with (fail)
      go_meet
      exact ⟨_, rfl, hB9, by first | exact hzs | omega, below_grown hGL (Nat.le_refl _) (fun g e => by cases e)⟩
  case rest =>
  obtain ⟨g, rfl, hI, hgW, hbc⟩ := hcut
  obtain ⟨V, hV⟩ : ∃ V, V = wc := ⟨_, rfl⟩
  subst hV
  have hbV := hb0.trans (hbc.mono hs0)
  have hRV := hR0.below hbc hR0.lt
  have hsV := hbV.size
  have hgR : w.heap.size < g := by have := hR0.lt; omega
  obtain ⟨x5, hx5, a5⟩ := CellA.out V hbV 5 (by omega)
  have hx5' : x5.toNat = p := by rw [← HOne.out 5 x5 hx5, HPp.out]
  rw [hx5'] at a5
  have hpl : p < 256 := by rw [← hx5']; exact x5.toNat_lt
  have hwp : wrap64 (p : Int) = p := by unfold wrap64; omega
  have hbV2 : b < V.heap.size := by omega
  have HI := Lib.hid hI; have HbV := Lib.hid hbV; have HRV := Lib.hid hRV
  have i0 := hI.cell 0; have i1 := hI.cell 1; have i2 := hI.cell 2; have i3 := hI.cell 3; have i4 := hI.cell 4
  have hgl := hI.lt
  have hf1 := hI.unfr 1
  clear hx5 hx5' x5 hbc hR0 a0 hwo hI hbV
  by_cases h6 : n < 7 + p
  · have h6i : (n : Int) < 6 + p + 1 := by omega
    go_wp2_with (refine wpList_store_blk rfl 42 (.tmp 2) (.tmp 26) rfl hRV #[.int .i64 op, .string ⟨#[]⟩, .string ⟨#[]⟩, .int .i64 md, .int .i64 rf] rfl rfl (by kernel_rfl) (by kernel_rfl) (by kernel_rfl) ?_; intro w2 hB2 hg2 hs2)
    refine ret_cell_t rfl rfl (load_blk hB2 Tryd.underlying42 rfl (by kernel_rfl)) rfl ⟨⟨op, ⟨#[]⟩, ⟨#[]⟩, md, rf⟩, false, rfl, HbV.out.trans (below_grown hg2 hsV (fun q e => by injection e with e; omega)), (fun h => by cases h), fun _ y hy e => ?_⟩
    have := body_parts hy e
    rw [HPp.out] at this
    have := HN.out
    omega
  have h6i : ¬ (n : Int) < 6 + p + 1 := by omega
  have hsub : ∀ (W' : World), Below w.heap.size w W' → ∀ k m, k + m ≤ n → 0 < m → Sl W' W'.heap.size 1 (some ⟨b, o + k, none⟩) m (((r.drop k).take m).flatMap u8L) := fun W' hb' k m hkm h0 => by
    have h1 := (HA0.out.below hb' (Nat.le_refl _)).more hb'.size
    have h2 := h1.rest1 (k := k) (c := n + 1) (by omega) (by omega)
    unfold restA at h2
    rw [if_neg (by omega), u8_drop] at h2
    have h3 := h2.first (k := m) (by omega)
    rw [Nat.mul_one, u8_take] at h3
    simpa [add_at] using h3
  have hconv : ∀ (W' : World), Below w.heap.size w W' → ∀ k m c', k + m ≤ n → ∀ A', (0 < m → A' = some ⟨b, o + k, none⟩) → (convert 22 9 (.slice A' m c')).run Tryd.prog W' = .ok (.string ⟨((r.drop k).take m).toArray⟩) W' := fun W' hb' k m c' hkm A' hA' => by
    by_cases h0 : 0 < m
    · rw [hA' h0]
      exact conv_any (hsub W' hb' k m hkm h0) (by rw [List.length_take, List.length_drop, HN.out]; omega) c'
    · obtain rfl : m = 0 := by omega
      rw [List.take_zero]
      exact conv_zero A' c' W'
  have HConv := Lib.hid hconv
  have cv := hconv V HbV.out 6 p (c - 6) (by omega) (some ⟨b, o + 6, none⟩) (fun _ => rfl)
  have hc6 : (6 : Int) < c := by omega
  have hpc : (6 : Int) + p ≤ c := by omega
  clear hsub hconv
  go_upto_region 6 with (fail)
  obtain ⟨pl, hpl'⟩ : ∃ l, (r.drop 6).take p = l := ⟨_, rfl⟩
  rw [hpl']
  have HPl := Lib.hid hpl'
  obtain ⟨V6, hV6⟩ : ∃ W, W = V.setCell ⟨g, 1, none⟩ (.string ⟨pl.toArray⟩) := ⟨_, rfl⟩
  have hI6 : Blk V6 g 42 #[.int .i64 op, .string ⟨pl.toArray⟩, .string ⟨#[]⟩, .int .i64 md, .int .i64 rf] := by rw [hV6]; exact HI.out.set 1 _
  have hgs := grown_put V g 1 (.string ⟨pl.toArray⟩)
  have hb6 : Below w.heap.size w V6 := by rw [hV6]; exact HbV.out.trans (below_grown hgs hsV (fun q e => by injection e with e; omega))
  have hR6 : Blk V6 w.heap.size 42 #[.int .i64 0, .string ⟨#[]⟩, .string ⟨#[]⟩, .int .i64 0, .int .i64 0] := by rw [hV6]; exact HRV.out.keep (hgs.block _ HRV.out.lt (fun e => by injection e with e; omega))
  have hs6 : V6.heap.size = V.heap.size := by rw [hV6]; simp
  rw [← hV6]
  clear hV6 hgs cv hpl' i0 i1 i2 i3 i4 hf1 a5 hRV
  obtain ⟨x6, hx6, a6⟩ := CellA.out V6 hb6 (6 + p) (by omega)
  obtain ⟨q, hq⟩ : ∃ q, x6.toNat = q := ⟨_, rfl⟩
  have HQ := Lib.hid (show deN ((r.drop (6 + p)).take 1) = q by rw [HOne.out _ x6 hx6, hq])
  have hql : q < 256 := by rw [← hq]; exact x6.toNat_lt
  rw [hq] at a6
  have hwq : wrap64 (q : Int) = q := by unfold wrap64; omega
  have HwP := Lib.hid hwp
  have hxn : ((6 + p : Nat) : Int) = 6 + (p : Int) := by omega
  have hgl6 : g < V6.heap.size := by omega
  have hbl6 : b < V6.heap.size := by omega
  have HI6 := Lib.hid hI6; have HR6 := Lib.hid hR6; have Hb6 := Lib.hid hb6
  clear hx6 hI6 hR6 hb6 hs6 HRV HbV hwp HI hgl hbV2 hsV hq x6 h6
  by_cases h9 : n = 7 + p + q
  · have h9i : ((7 : Int) + p + q != (n : Int)) = false := by simp; omega
    have h7p : (7 + p : Int) ≤ n := by omega
    have h7c : (7 + p : Int) ≤ c := by omega
    obtain ⟨dl, hdl⟩ : ∃ l, r.drop (7 + p) = l := ⟨_, rfl⟩
    have hcv1 : ∀ A' c', (0 < n - (7 + p) → A' = some ⟨b, o + (7 + p), none⟩) → (convert 22 9 (.slice A' (n - (7 + p)) c')).run Tryd.prog V6 = .ok (.string ⟨dl.toArray⟩) V6 := fun A' c' h => by
      have := HConv.out V6 Hb6.out (7 + p) (n - (7 + p)) c' (by omega) A' h
      rwa [List.take_of_length_le (by rw [List.length_drop, HN.out]; omega), hdl] at this
    have Hcv := Lib.hid hcv1
    have HY := Lib.hid (body_yes HPp.out HQ.out (by rw [HN.out]; exact h9.symm) (by rw [HN.out]; omega))
    unfold bodyI at HY
    rw [HOp.out, HMd.out, HRf.out, HPl.out, hdl] at HY
    have H9 := Lib.hid h9
    clear h9 hdl hcv1
    go_upto_region 9 with (fail)
    have hf2 := HI6.out.unfr 2
    have j2 := HI6.out.cell 2
    go_wp2_with (fail)
    all_goals rw [Hcv.out _ _ (by first | exact fun _ => rfl | (intro h; exfalso; have := H9.out; omega))]
    all_goals go_upto_region 10 with (fail)
    all_goals
      obtain ⟨V9, hV9⟩ : ∃ W, W = V6.setCell ⟨g, 2, none⟩ (.string ⟨dl.toArray⟩) := ⟨_, rfl⟩
      have hI9 : Blk V9 g 42 #[.int .i64 op, .string ⟨pl.toArray⟩, .string ⟨dl.toArray⟩, .int .i64 md, .int .i64 rf] := by rw [hV9]; exact HI6.out.set 2 _
      have hgs := grown_put V6 g 2 (.string ⟨dl.toArray⟩)
      have hb9 : Below w.heap.size w V9 := by rw [hV9]; exact Hb6.out.trans (below_grown hgs Hb6.out.size (fun q e => by injection e with e; omega))
      have hR9 : Blk V9 w.heap.size 42 #[.int .i64 0, .string ⟨#[]⟩, .string ⟨#[]⟩, .int .i64 0, .int .i64 0] := by rw [hV9]; exact HR6.out.keep (hgs.block _ HR6.out.lt (fun e => by injection e with e; omega))
      rw [← hV9]
      have hs9 := hb9.size
      have hgl9 := hI9.lt
      clear hV9 hgs j2 hf2
      have j0 := hI9.cell 0; have j1 := hI9.cell 1; have j2 := hI9.cell 2; have j3 := hI9.cell 3; have j4 := hI9.cell 4
      have HR9 := Lib.hid hR9; have Hb9 := Lib.hid hb9
      clear hI9 hR9 hb9
      go_wp2_with (refine wpList_store_blk rfl 42 (.tmp 2) (.tmp 53) rfl HR9.out #[.int .i64 op, .string ⟨pl.toArray⟩, .string ⟨dl.toArray⟩, .int .i64 md, .int .i64 rf] rfl rfl (by kernel_rfl) (by kernel_rfl) (by kernel_rfl) ?_; intro w2 hB2 hg2 hs2)
      exact ret_cell_t rfl rfl (load_blk hB2 Tryd.underlying42 rfl (by kernel_rfl)) rfl ⟨⟨op, ⟨pl.toArray⟩, ⟨dl.toArray⟩, md, rf⟩, true, rfl, Hb9.out.trans (below_grown hg2 Hb9.out.size (fun q e => by injection e with e; omega)), (fun _ => HY.out), fun h => by cases h⟩
  · have h9i : ((7 : Int) + p + q != (n : Int)) = true := by simp; omega
    have H9 := Lib.hid h9
    clear h9
    go_upto_region 7 with (fail)
    have j0 := HI6.out.cell 0; have j1 := HI6.out.cell 1; have j2 := HI6.out.cell 2; have j3 := HI6.out.cell 3; have j4 := HI6.out.cell 4
    go_wp2_with (refine wpList_store_blk rfl 42 (.tmp 2) (.tmp 46) rfl HR6.out #[.int .i64 op, .string ⟨pl.toArray⟩, .string ⟨#[]⟩, .int .i64 md, .int .i64 rf] rfl rfl (by kernel_rfl) (by kernel_rfl) (by kernel_rfl) ?_; intro w2 hB2 hg2 hs2)
    refine ret_cell_t rfl rfl (load_blk hB2 Tryd.underlying42 rfl (by kernel_rfl)) rfl ⟨⟨op, ⟨pl.toArray⟩, ⟨#[]⟩, md, rf⟩, false, rfl, Hb6.out.trans (below_grown hg2 Hb6.out.size (fun q e => by injection e with e; omega)), (fun h => by cases h), fun _ y hy e => ?_⟩
    have := body_parts hy e
    rw [HPp.out] at this
    have h1 := HN.out
    have h2 := H9.out
    obtain ⟨j1, j2, j3⟩ := this
    rw [← j2, HQ.out] at j3
    omega
end Go.Proofs.YtgeiegjpnnbloaaDoor
