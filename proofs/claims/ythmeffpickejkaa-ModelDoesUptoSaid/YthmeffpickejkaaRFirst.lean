/- shuntref7.first: the errors that the tree does not matter for. -/
import Derived.Test.YthmeffpickejkaaLaw7
namespace Go.Proofs.Ythmeffpickejkaa
open Go.RowKit

/-- What first says, of whatever instruction. -/
def rfirstE (c : Cmd) (ds : List ByteArray) : Int := if isOp c.op = false then 34 else if c.op = 9 then 0 else firstE (toB c.op) (modeB c.op) c ds
set_option maxRecDepth 100000 in
set_option maxHeartbeats 8000000 in
theorem rfirst_any (c : Cmd) (SA : Option Addr) (sn sc : Nat) (ss : List SC) (ds : List ByteArray) (w : World) (hS : StockAt w SA sn ss ds) :
    Calls Try.prog 42 #[.agg c.cells, .slice SA sn sc] w (NumRes (rfirstE c ds) w) := by
  obtain ⟨E, hE⟩ : ∃ E, rfirstE c ds = E := ⟨_, rfl⟩
  rw [hE]
  unfold rfirstE at hE
  have hdl := hS.dlen
  have hnm := hS.nm
  unfold Cmd.cells
  have hI := Blk.new w 27 #[.int .i64 c.op, .string c.path, .string c.dst, .int .i64 c.mode, .int .i64 c.ref]
  have hb : Below w.heap.size w (w.alloc (.cells #[.int .i64 c.op, .string c.path, .string c.dst, .int .i64 c.mode, .int .i64 c.ref] 27)) := (Below.refl _ _).alloc (Nat.le_refl _) _
  obtain ⟨W, hW⟩ : ∃ W, W = w.alloc (.cells #[.int .i64 c.op, .string c.path, .string c.dst, .int .i64 c.mode, .int .i64 c.ref] 27) := ⟨_, rfl⟩
  have HE := Lib.hid hE; have HS := Lib.hid hS; have Hdl := Lib.hid hdl
  clear hE hS hdl
  go_enter Try.func42, Try.ntmps42
  go_upto_region 1 with (fail)
  rw [← hW] at hI hb ⊢
  have hWs : w.heap.size < W.heap.size := by rw [hW]; simp
  clear hW
  have i0 := hI.cell 0
  have i1 := hI.cell 1
  have i2 := hI.cell 2
  have i3 := hI.cell 3
  have i4 := hI.cell 4
  -- the instruction's number
  by_cases o1 : c.op < 1
  · have hfin : E = 34 := by rw [← HE.out, if_pos (by simp [isOp]; omega)]
    have HF := Lib.hid hfin; clear hfin
    go_wp2
    go_ret
    exact ⟨by rw [HF.out]; rfl, hb⟩
  by_cases o2 : 9 < c.op
  · have hfin : E = 34 := by rw [← HE.out, if_pos (by simp [isOp]; omega)]
    have HF := Lib.hid hfin; clear hfin
    go_wp2
    go_ret
    exact ⟨by rw [HF.out]; rfl, hb⟩
  have hE1 := HE.out
  rw [if_neg (show ¬ isOp c.op = false by simp [isOp]; omega)] at hE1
  by_cases o3 : c.op = 9
  · rw [if_pos o3] at hE1
    have HF := Lib.hid hE1.symm; clear hE1
    have O3 := Lib.hid o3
    have o4 : (c.op == 9) = true := by simp [o3]
    clear o3
    go_wp2
    go_ret
    exact ⟨by rw [HF.out]; rfl, hb⟩
  rw [if_neg o3] at hE1
  have HE1 := Lib.hid hE1; clear hE1
  have o4 := (ne_b o3).1
  obtain ⟨T, hT⟩ : ∃ T, toB c.op = T := ⟨_, rfl⟩
  obtain ⟨Md, hMd⟩ : ∃ T, modeB c.op = T := ⟨_, rfl⟩
  rw [hT, hMd] at HE1
  have HT := Lib.hid hT; have HMd := Lib.hid hMd
  clear hT hMd o3
  unfold firstE at HE1
  go_upto_region 7 with (first | (go_at_call 32; refine (hasMode7 _ _).mono ?_; rintro e w1 ⟨rfl, hw⟩; rw [hw, HMd.out]; clear hw) | (go_at_call 33; refine (hasTo7 _ _).mono ?_; rintro e w1 ⟨rfl, hw⟩; rw [hw, HT.out]; clear hw))
  clear o4
  by_cases m1 : Md = true ∧ (c.mode < 0 ∨ 511 < c.mode)
  · have hfin : E = 28 := by rw [← HE1.out, if_pos m1]
    have HF := Lib.hid hfin; clear hfin
    obtain ⟨rfl, m1⟩ := m1
    by_cases m2 : c.mode < 0
    · go_wp2
      go_ret
      exact ⟨by rw [HF.out]; rfl, hb⟩
    · have m3 : 511 < c.mode := by omega
      go_wp2
      go_ret
      exact ⟨by rw [HF.out]; rfl, hb⟩
  have hE2 := HE1.out
  rw [if_neg m1] at hE2
  have HE2 := Lib.hid hE2; clear hE2
  cases Md with
  | true =>
    have m4 : ¬ c.mode < 0 := fun h => m1 ⟨rfl, .inl h⟩
    have m5 : ¬ 511 < c.mode := fun h => m1 ⟨rfl, .inr h⟩
    clear m1
    by_cases p1 : c.path.data.toList = []
    · have hfin : E = 26 := by rw [← HE2.out, if_pos (.inl p1)]
      have HF := Lib.hid hfin; clear hfin
      obtain ⟨q1, q2⟩ := empty_b p1
      have P1 := Lib.hid p1; clear p1
      go_wp2
      go_ret
      exact ⟨by rw [HF.out]; rfl, hb⟩
    obtain ⟨q1, q2, q3⟩ := nonempty_b p1
    by_cases d1 : T = true ∧ c.dst.data.toList = []
    · have hfin : E = 26 := by rw [← HE2.out, if_pos (.inr d1)]
      have HF := Lib.hid hfin; clear hfin
      obtain ⟨rfl, d1⟩ := d1
      obtain ⟨r1, r2⟩ := empty_b d1
      have P1 := Lib.hid p1; clear p1 d1
      go_wp2
      go_ret
      exact ⟨by rw [HF.out]; rfl, hb⟩
    have hE3 := HE2.out
    rw [if_neg (fun h => h.elim p1 d1)] at hE3
    have HE3 := Lib.hid hE3; clear hE3
    have hdn : T = true → (¬ c.dst.toList = [] ∧ (!c.dst.toList.isEmpty) = true ∧ (c.dst.toList == []) = false) := fun h => nonempty_b fun h2 => d1 ⟨h, h2⟩
    clear p1 d1
    obtain ⟨vp, hvp⟩ : ∃ b, validL c.path.data.toList = b := ⟨_, rfl⟩
    obtain ⟨vd, hvd⟩ : ∃ b, validL c.dst.data.toList = b := ⟨_, rfl⟩
    rw [hvp, hvd] at HE3
    have Hvp := Lib.hid hvp; have Hvd := Lib.hid hvd
    clear hvp hvd
    cases T with
    | true =>
      obtain ⟨r1, r2, r3⟩ := hdn rfl
      go_upto_region 11 with (fail)
      go_upto_region 13 with (first | (go_at_call 50; (first | ((with_reducible refine (rvalid_any c.path _ c.hp).mono ?_); rintro e w1 ⟨rfl, hb1⟩; rw [Hvp.out]; have hI1 := hI.below hb1 hWs; have j2 := hI1.cell 2; have hbA := hb.trans (hb1.mono hb.size)) | ((with_reducible refine (rvalid_any c.dst _ c.hd).mono ?_); rintro e w2 ⟨rfl, hb2⟩; rw [Hvd.out]))))
      have hb2w := hbA.trans (hb2.mono hbA.size)
      have hI2 := hI1.below hb2 hI1.lt
      clear i0 i1 i2 i3 i4 j2
      have i0 := hI2.cell 0
      have i4 := hI2.cell 4
      cases vp with
      | false =>
        have HF := Lib.hid (show E = 20 by rw [← HE3.out, if_pos (.inl rfl)])
        go_wp2
        go_ret
        exact ⟨by rw [HF.out]; rfl, hb2w⟩
      | true =>
        cases vd with
        | false =>
          have HF := Lib.hid (show E = 20 by rw [← HE3.out, if_pos (.inr (by simp))])
          go_wp2
          go_ret
          exact ⟨by rw [HF.out]; rfl, hb2w⟩
        | true =>
          have hE4 := HE3.out
          rw [if_neg (by simp)] at hE4
          by_cases o6 : c.op = 6
          · rw [if_pos o6] at hE4
            have o7 : (c.op == 6) = true := by simp [o6]
            have O6 := Lib.hid o6
            have hE4' := Lib.hid hE4
            clear o6 hE4
            by_cases f1 : c.ref < 0
            · have HF := Lib.hid (show E = 32 by rw [← hE4'.out, if_pos (.inl f1)])
              go_wp2
              go_ret
              exact ⟨by rw [HF.out]; rfl, hb2w⟩
            · by_cases f2 : (sn : Int) ≤ c.ref
              · have HF := Lib.hid (show E = 32 by rw [← hE4'.out, if_pos (.inr (by rw [Hdl.out]; exact f2))])
                go_wp2
                go_ret
                exact ⟨by rw [HF.out]; rfl, hb2w⟩
              · obtain ⟨k, hk⟩ := Int.eq_ofNat_of_zero_le (show 0 ≤ c.ref by omega)
                have hkn : k < sn := by omega
                have hki : (k : Int) < sn := by omega
                obtain ⟨xb, xo, x, rfl, hxb, hx, hc⟩ := (HS.out.sl.below hb2w (Nat.le_refl _)).get SC.len HS.out.len hkn
                have c0 := hc 0 _ rfl
                simp only [Nat.add_zero, Nat.mul_one] at c0
                obtain ⟨d, hd⟩ : ∃ d, ds[k]? = some d := ⟨_, List.getElem?_eq_getElem (by rw [Hdl.out]; exact hkn)⟩
                have hdn2 := (HS.out.dat k x d hx hd).1
                have hE5 := hE4'.out
                rw [if_neg (by rw [Hdl.out]; omega), hk, Int.toNat_natCast, hd, Option.map_some, Option.getD_some, hdn2] at hE5
                have HE5 := Lib.hid hE5
                rw [hk] at i4
                clear hE5 hdn2 hd hc hx hk f1 f2
                by_cases f3 : 8192 < x.n
                · have HF := Lib.hid (show E = 2 by rw [← HE5.out, if_pos f3])
                  have f4 : (8192 : Int) < x.n := by omega
                  go_wp2
                  go_ret
                  exact ⟨by rw [HF.out]; rfl, hb2w⟩
                · have HF := Lib.hid (show E = 0 by rw [← HE5.out, if_neg f3])
                  have f4 : ¬ (8192 : Int) < x.n := by omega
                  go_wp2
                  go_ret
                  exact ⟨by rw [HF.out]; rfl, hb2w⟩
          · rw [if_neg o6] at hE4
            have HF := Lib.hid hE4.symm
            have o7 := (ne_b o6).1
            clear o6 hE4
            go_wp2
            go_ret
            exact ⟨by rw [HF.out]; rfl, hb2w⟩
    | false =>
      clear hdn
      go_upto_region 11 with (fail)
      go_upto_region 13 with (first | (go_at_call 50; (first | ((with_reducible refine (rvalid_any c.path _ c.hp).mono ?_); rintro e w1 ⟨rfl, hb1⟩; rw [Hvp.out]; have hI1 := hI.below hb1 hWs; have j2 := hI1.cell 2; have hbA := hb.trans (hb1.mono hb.size)) | ((with_reducible refine (rvalid_any c.dst _ c.hd).mono ?_); rintro e w2 ⟨rfl, hb2⟩; rw [Hvd.out]))))
      have hb2w := hbA.trans (hb2.mono hbA.size)
      have hI2 := hI1.below hb2 hI1.lt
      clear i0 i1 i2 i3 i4 j2
      have i0 := hI2.cell 0
      have i4 := hI2.cell 4
      cases vp with
      | false =>
        have HF := Lib.hid (show E = 20 by rw [← HE3.out, if_pos (.inl rfl)])
        go_wp2
        go_ret
        exact ⟨by rw [HF.out]; rfl, hb2w⟩
      | true =>
        have hE4 := HE3.out
        rw [if_neg (by simp)] at hE4
        by_cases o6 : c.op = 6
        · rw [if_pos o6] at hE4
          have o7 : (c.op == 6) = true := by simp [o6]
          have O6 := Lib.hid o6
          have hE4' := Lib.hid hE4
          clear o6 hE4
          by_cases f1 : c.ref < 0
          · have HF := Lib.hid (show E = 32 by rw [← hE4'.out, if_pos (.inl f1)])
            go_wp2
            go_ret
            exact ⟨by rw [HF.out]; rfl, hb2w⟩
          · by_cases f2 : (sn : Int) ≤ c.ref
            · have HF := Lib.hid (show E = 32 by rw [← hE4'.out, if_pos (.inr (by rw [Hdl.out]; exact f2))])
              go_wp2
              go_ret
              exact ⟨by rw [HF.out]; rfl, hb2w⟩
            · obtain ⟨k, hk⟩ := Int.eq_ofNat_of_zero_le (show 0 ≤ c.ref by omega)
              have hkn : k < sn := by omega
              have hki : (k : Int) < sn := by omega
              obtain ⟨xb, xo, x, rfl, hxb, hx, hc⟩ := (HS.out.sl.below hb2w (Nat.le_refl _)).get SC.len HS.out.len hkn
              have c0 := hc 0 _ rfl
              simp only [Nat.add_zero, Nat.mul_one] at c0
              obtain ⟨d, hd⟩ : ∃ d, ds[k]? = some d := ⟨_, List.getElem?_eq_getElem (by rw [Hdl.out]; exact hkn)⟩
              have hdn2 := (HS.out.dat k x d hx hd).1
              have hE5 := hE4'.out
              rw [if_neg (by rw [Hdl.out]; omega), hk, Int.toNat_natCast, hd, Option.map_some, Option.getD_some, hdn2] at hE5
              have HE5 := Lib.hid hE5
              rw [hk] at i4
              clear hE5 hdn2 hd hc hx hk f1 f2
              by_cases f3 : 8192 < x.n
              · have HF := Lib.hid (show E = 2 by rw [← HE5.out, if_pos f3])
                have f4 : (8192 : Int) < x.n := by omega
                go_wp2
                go_ret
                exact ⟨by rw [HF.out]; rfl, hb2w⟩
              · have HF := Lib.hid (show E = 0 by rw [← HE5.out, if_neg f3])
                have f4 : ¬ (8192 : Int) < x.n := by omega
                go_wp2
                go_ret
                exact ⟨by rw [HF.out]; rfl, hb2w⟩
        · rw [if_neg o6] at hE4
          have HF := Lib.hid hE4.symm
          have o7 := (ne_b o6).1
          clear o6 hE4
          go_wp2
          go_ret
          exact ⟨by rw [HF.out]; rfl, hb2w⟩
  | false =>
    clear m1
    by_cases p1 : c.path.data.toList = []
    · have hfin : E = 26 := by rw [← HE2.out, if_pos (.inl p1)]
      have HF := Lib.hid hfin; clear hfin
      obtain ⟨q1, q2⟩ := empty_b p1
      have P1 := Lib.hid p1; clear p1
      go_wp2
      go_ret
      exact ⟨by rw [HF.out]; rfl, hb⟩
    obtain ⟨q1, q2, q3⟩ := nonempty_b p1
    by_cases d1 : T = true ∧ c.dst.data.toList = []
    · have hfin : E = 26 := by rw [← HE2.out, if_pos (.inr d1)]
      have HF := Lib.hid hfin; clear hfin
      obtain ⟨rfl, d1⟩ := d1
      obtain ⟨r1, r2⟩ := empty_b d1
      have P1 := Lib.hid p1; clear p1 d1
      go_wp2
      go_ret
      exact ⟨by rw [HF.out]; rfl, hb⟩
    have hE3 := HE2.out
    rw [if_neg (fun h => h.elim p1 d1)] at hE3
    have HE3 := Lib.hid hE3; clear hE3
    have hdn : T = true → (¬ c.dst.toList = [] ∧ (!c.dst.toList.isEmpty) = true ∧ (c.dst.toList == []) = false) := fun h => nonempty_b fun h2 => d1 ⟨h, h2⟩
    clear p1 d1
    obtain ⟨vp, hvp⟩ : ∃ b, validL c.path.data.toList = b := ⟨_, rfl⟩
    obtain ⟨vd, hvd⟩ : ∃ b, validL c.dst.data.toList = b := ⟨_, rfl⟩
    rw [hvp, hvd] at HE3
    have Hvp := Lib.hid hvp; have Hvd := Lib.hid hvd
    clear hvp hvd
    cases T with
    | true =>
      obtain ⟨r1, r2, r3⟩ := hdn rfl
      go_upto_region 11 with (fail)
      go_upto_region 13 with (first | (go_at_call 50; (first | ((with_reducible refine (rvalid_any c.path _ c.hp).mono ?_); rintro e w1 ⟨rfl, hb1⟩; rw [Hvp.out]; have hI1 := hI.below hb1 hWs; have j2 := hI1.cell 2; have hbA := hb.trans (hb1.mono hb.size)) | ((with_reducible refine (rvalid_any c.dst _ c.hd).mono ?_); rintro e w2 ⟨rfl, hb2⟩; rw [Hvd.out]))))
      have hb2w := hbA.trans (hb2.mono hbA.size)
      have hI2 := hI1.below hb2 hI1.lt
      clear i0 i1 i2 i3 i4 j2
      have i0 := hI2.cell 0
      have i4 := hI2.cell 4
      cases vp with
      | false =>
        have HF := Lib.hid (show E = 20 by rw [← HE3.out, if_pos (.inl rfl)])
        go_wp2
        go_ret
        exact ⟨by rw [HF.out]; rfl, hb2w⟩
      | true =>
        cases vd with
        | false =>
          have HF := Lib.hid (show E = 20 by rw [← HE3.out, if_pos (.inr (by simp))])
          go_wp2
          go_ret
          exact ⟨by rw [HF.out]; rfl, hb2w⟩
        | true =>
          have hE4 := HE3.out
          rw [if_neg (by simp)] at hE4
          by_cases o6 : c.op = 6
          · rw [if_pos o6] at hE4
            have o7 : (c.op == 6) = true := by simp [o6]
            have O6 := Lib.hid o6
            have hE4' := Lib.hid hE4
            clear o6 hE4
            by_cases f1 : c.ref < 0
            · have HF := Lib.hid (show E = 32 by rw [← hE4'.out, if_pos (.inl f1)])
              go_wp2
              go_ret
              exact ⟨by rw [HF.out]; rfl, hb2w⟩
            · by_cases f2 : (sn : Int) ≤ c.ref
              · have HF := Lib.hid (show E = 32 by rw [← hE4'.out, if_pos (.inr (by rw [Hdl.out]; exact f2))])
                go_wp2
                go_ret
                exact ⟨by rw [HF.out]; rfl, hb2w⟩
              · obtain ⟨k, hk⟩ := Int.eq_ofNat_of_zero_le (show 0 ≤ c.ref by omega)
                have hkn : k < sn := by omega
                have hki : (k : Int) < sn := by omega
                obtain ⟨xb, xo, x, rfl, hxb, hx, hc⟩ := (HS.out.sl.below hb2w (Nat.le_refl _)).get SC.len HS.out.len hkn
                have c0 := hc 0 _ rfl
                simp only [Nat.add_zero, Nat.mul_one] at c0
                obtain ⟨d, hd⟩ : ∃ d, ds[k]? = some d := ⟨_, List.getElem?_eq_getElem (by rw [Hdl.out]; exact hkn)⟩
                have hdn2 := (HS.out.dat k x d hx hd).1
                have hE5 := hE4'.out
                rw [if_neg (by rw [Hdl.out]; omega), hk, Int.toNat_natCast, hd, Option.map_some, Option.getD_some, hdn2] at hE5
                have HE5 := Lib.hid hE5
                rw [hk] at i4
                clear hE5 hdn2 hd hc hx hk f1 f2
                by_cases f3 : 8192 < x.n
                · have HF := Lib.hid (show E = 2 by rw [← HE5.out, if_pos f3])
                  have f4 : (8192 : Int) < x.n := by omega
                  go_wp2
                  go_ret
                  exact ⟨by rw [HF.out]; rfl, hb2w⟩
                · have HF := Lib.hid (show E = 0 by rw [← HE5.out, if_neg f3])
                  have f4 : ¬ (8192 : Int) < x.n := by omega
                  go_wp2
                  go_ret
                  exact ⟨by rw [HF.out]; rfl, hb2w⟩
          · rw [if_neg o6] at hE4
            have HF := Lib.hid hE4.symm
            have o7 := (ne_b o6).1
            clear o6 hE4
            go_wp2
            go_ret
            exact ⟨by rw [HF.out]; rfl, hb2w⟩
    | false =>
      clear hdn
      go_upto_region 11 with (fail)
      go_upto_region 13 with (first | (go_at_call 50; (first | ((with_reducible refine (rvalid_any c.path _ c.hp).mono ?_); rintro e w1 ⟨rfl, hb1⟩; rw [Hvp.out]; have hI1 := hI.below hb1 hWs; have j2 := hI1.cell 2; have hbA := hb.trans (hb1.mono hb.size)) | ((with_reducible refine (rvalid_any c.dst _ c.hd).mono ?_); rintro e w2 ⟨rfl, hb2⟩; rw [Hvd.out]))))
      have hb2w := hbA.trans (hb2.mono hbA.size)
      have hI2 := hI1.below hb2 hI1.lt
      clear i0 i1 i2 i3 i4 j2
      have i0 := hI2.cell 0
      have i4 := hI2.cell 4
      cases vp with
      | false =>
        have HF := Lib.hid (show E = 20 by rw [← HE3.out, if_pos (.inl rfl)])
        go_wp2
        go_ret
        exact ⟨by rw [HF.out]; rfl, hb2w⟩
      | true =>
        have hE4 := HE3.out
        rw [if_neg (by simp)] at hE4
        by_cases o6 : c.op = 6
        · rw [if_pos o6] at hE4
          have o7 : (c.op == 6) = true := by simp [o6]
          have O6 := Lib.hid o6
          have hE4' := Lib.hid hE4
          clear o6 hE4
          by_cases f1 : c.ref < 0
          · have HF := Lib.hid (show E = 32 by rw [← hE4'.out, if_pos (.inl f1)])
            go_wp2
            go_ret
            exact ⟨by rw [HF.out]; rfl, hb2w⟩
          · by_cases f2 : (sn : Int) ≤ c.ref
            · have HF := Lib.hid (show E = 32 by rw [← hE4'.out, if_pos (.inr (by rw [Hdl.out]; exact f2))])
              go_wp2
              go_ret
              exact ⟨by rw [HF.out]; rfl, hb2w⟩
            · obtain ⟨k, hk⟩ := Int.eq_ofNat_of_zero_le (show 0 ≤ c.ref by omega)
              have hkn : k < sn := by omega
              have hki : (k : Int) < sn := by omega
              obtain ⟨xb, xo, x, rfl, hxb, hx, hc⟩ := (HS.out.sl.below hb2w (Nat.le_refl _)).get SC.len HS.out.len hkn
              have c0 := hc 0 _ rfl
              simp only [Nat.add_zero, Nat.mul_one] at c0
              obtain ⟨d, hd⟩ : ∃ d, ds[k]? = some d := ⟨_, List.getElem?_eq_getElem (by rw [Hdl.out]; exact hkn)⟩
              have hdn2 := (HS.out.dat k x d hx hd).1
              have hE5 := hE4'.out
              rw [if_neg (by rw [Hdl.out]; omega), hk, Int.toNat_natCast, hd, Option.map_some, Option.getD_some, hdn2] at hE5
              have HE5 := Lib.hid hE5
              rw [hk] at i4
              clear hE5 hdn2 hd hc hx hk f1 f2
              by_cases f3 : 8192 < x.n
              · have HF := Lib.hid (show E = 2 by rw [← HE5.out, if_pos f3])
                have f4 : (8192 : Int) < x.n := by omega
                go_wp2
                go_ret
                exact ⟨by rw [HF.out]; rfl, hb2w⟩
              · have HF := Lib.hid (show E = 0 by rw [← HE5.out, if_neg f3])
                have f4 : ¬ (8192 : Int) < x.n := by omega
                go_wp2
                go_ret
                exact ⟨by rw [HF.out]; rfl, hb2w⟩
        · rw [if_neg o6] at hE4
          have HF := Lib.hid hE4.symm
          have o7 := (ne_b o6).1
          clear o6 hE4
          go_wp2
          go_ret
          exact ⟨by rw [HF.out]; rfl, hb2w⟩
end Go.Proofs.Ythmeffpickejkaa
