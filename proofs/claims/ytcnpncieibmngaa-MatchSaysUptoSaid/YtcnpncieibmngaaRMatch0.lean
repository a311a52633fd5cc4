/- shuntref11.same, named, alike. shuntref11.Match: what its loops hold. -/
import Derived.Test.YtcnpncieibmngaaRStockP
import Derived.Test.YtcnpncieibmngaaNamesR
import Derived.Test.YtcnpncieibmngaaRCheck

namespace Go.Proofs.Ytcnpncieibmngaa
open Go.RowKit

theorem same11_any {X Y : Nat} (A : Option Addr) (n c : Nat) (d : ByteArray) (B : Option Addr) (m k : Nat) (e : ByteArray) (w : World) (hA : Sl w X 1 A n (bytesC d)) (hn : d.size = n) (hB : Sl w Y 1 B m (bytesC e)) (hm : e.size = m) :
    Calls Try.prog 43 #[.slice A n c, .slice B m k] w fun r w' => r = .returned (.bool (d.toList == e.toList)) ∧ w' = w := by
  have k1 := run_conv (c := c) hA hn
  have k2 := run_conv (c := k) hB hm
  clear hA hn hB hm
  go_enter Try.func43, Try.ntmps43
  go_wp2
  go_ret
  exact ⟨rfl, rfl⟩
theorem ba_bb (a b : ByteArray) : (a.toList == b.toList) = decide (a = b) := by
  by_cases h : a = b
  · rw [h]; simp
  · rw [decide_eq_false h, beq_eq_false_iff_ne]
    exact fun e => h (toList_inj e)
def takenL (tk : Nat → Bool) (m : Nat) : List Bool := (List.range m).map tk
theorem takenL_get {tk : Nat → Bool} {m g : Nat} (h : g < m) : (takenL tk m)[g]? = some (tk g) := by simp [takenL, h]
theorem takenL_len (tk : Nat → Bool) (m : Nat) : (takenL tk m).length = m := by simp [takenL]
def optI (o : Option Nat) : Int := (o.map fun (k : Nat) => (k : Int)).getD (-1)
/-- The file at a path, by the place of its node. -/
theorem fileOf_no {l : List Node} {p : ByteArray} (h : findI l p = -1) : fileOfP l p = none := by
  rcases findFrom_spec p l 0 with ⟨_, h2⟩ | ⟨j, y, h1, _⟩
  · unfold fileOfP
    rw [List.find?_eq_none.2 fun y hy => by
      simp only [decide_eq_true_eq]
      exact fun e => h2 y hy (by rw [← e])]
  · have h' : findFrom p l 0 = -1 := h
    omega
theorem fileOf_at {l : List Node} {p : ByteArray} {j : Nat} (hR : Rises l) (h : findI l p = j) : ∃ y, l[j]? = some y ∧ fileOfP l p = if y.file < 0 then none else some y.file.toNat := by
  rcases findFrom_spec p l 0 with ⟨h1, _⟩ | ⟨k, y, h1, h2, h3⟩
  · have h' : findFrom p l 0 = j := h
    omega
  · have h' : findFrom p l 0 = j := h
    obtain rfl : k = j := by omega
    refine ⟨y, h2, ?_⟩
    unfold fileOfP
    have hf : l.find? (fun x => decide (x.path = p)) = some y := by
      cases hq : l.find? (fun x => decide (x.path = p)) with
      | none =>
        have := List.find?_eq_none.1 hq y (List.mem_of_getElem? h2)
        simp only [decide_eq_true_eq] at this
        exact absurd (ba_ext h3) this
      | some z =>
        have e1 := List.find?_some hq
        simp only [decide_eq_true_eq] at e1
        have e2 := List.mem_of_find?_eq_some hq
        rw [rises_inj hR e2 (List.mem_of_getElem? h2) (by show z.path.data.toList = _; rw [e1]; exact h3.symm)]
    rw [hf]
set_option maxRecDepth 100000 in
set_option maxHeartbeats 2000000 in
theorem alike_any (s t : TV) (ds es : List ByteArray) (tk : Nat → Bool) (f : Nat) (hf : f < t.fn) (TA : Option Addr) (tc : Nat) (w : World) (hs : TreeD w s ds) (ht : TreeD w t es) (hT : Sl w w.heap.size 1 TA s.fn ((takenL tk s.fn).flatMap boolL)) :
    Calls Try.prog 42 #[s.val, t.val, .int .i64 f, .slice TA s.fn tc] w (IntRes (optI (alikeF ds es tk f)) w) := by
  have hds : ds.length = s.fn := hs.dat.len.trans hs.tree.fl
  have hsm := hs.tree.fm; have htm := ht.tree.fm
  have HS := Lib.hid hs; have HT := Lib.hid ht; have HTk := Lib.hid hT; have HDs := Lib.hid hds
  clear hs ht hT hds
  unfold TV.val
  have hB1 := (Blk.new w 25 #[.slice s.NA s.nn s.nc, .slice s.FA s.fn s.fc]).alloc (.cells #[.slice t.NA t.nn t.nc, .slice t.FA t.fn t.fc] 25)
  have hB2 := Blk.new (w.alloc (.cells #[.slice s.NA s.nn s.nc, .slice s.FA s.fn s.fc] 25)) 25 #[.slice t.NA t.nn t.nc, .slice t.FA t.fn t.fc]
  have hb := ((Below.refl w.heap.size w).alloc (Nat.le_refl _) (.cells #[.slice s.NA s.nn s.nc, .slice s.FA s.fn s.fc] 25)).alloc (by simp) (.cells #[.slice t.NA t.nn t.nc, .slice t.FA t.fn t.fc] 25)
  simp only [World.size_alloc] at hB2
  go_enter Try.func42, Try.ntmps42
  go_wp2
  go_loopw [9] (fun v wr => ∃ g : Nat, g ≤ s.fn ∧ v = .int .i64 g ∧ (∀ j, j < g → fits ds es tk f j = false) ∧ Blk wr w.heap.size 25 #[.slice s.NA s.nn s.nc, .slice s.FA s.fn s.fc] ∧ Blk wr (w.heap.size + 1) 25 #[.slice t.NA t.nn t.nc, .slice t.FA t.fn t.fc] ∧ Below w.heap.size w wr) (fun v _ => s.fn - (intOf v).toNat)
  case atStart => exact ⟨0, Nat.zero_le _, rfl, fun j hj => absurd hj (by omega), hB1, hB2, hb⟩
  case round =>
    clear hB1 hB2 hb
    obtain ⟨g, hg, rfl, hno, hB1, hB2, hb⟩ := hrel
    have HNo := Lib.hid hno; clear hno
    have b1 := hB1.cell 1; have t1 := hB2.cell 1
    have hBl1 := hB1.lt; have hBl2 := hB2.lt
    by_cases hlt : g < s.fn
    · have hgi : (g : Int) < s.fn := by omega
      have hfi : (f : Int) < t.fn := by omega
      have hSr := HS.out.keep hb; have hTr := HT.out.keep hb
      obtain ⟨sb, so, fx, hsA, hsb, hfx, hsc⟩ := hSr.tree.fs.get FC.len hSr.tree.fl hlt
      obtain ⟨tb, to_, fy, htA, htb, hfy, htc⟩ := hTr.tree.fs.get FC.len hTr.tree.fl hf
      rw [hsA] at b1; rw [htA] at t1
      obtain ⟨d, hd, hdn, hdS⟩ := hSr.dat.get hfx
      obtain ⟨e, he, hen, heS⟩ := hTr.dat.get hfy
      have s1 := hsc 1 _ rfl; have y1 := htc 1 _ rfl
      have hfit : fits ds es tk f g = (decide (d = e) && !tk g) := by
        unfold fits
        rw [hd, he]
        simp
      have hTk := HTk.out.below hb (Nat.le_refl _)
      obtain ⟨kb, ko, x, hkA, hkb, hx, hkc⟩ := hTk.get (f := boolL) (sz := 1) (fun _ => rfl) (takenL_len _ _) hlt
      rw [takenL_get hlt] at hx
      injection hx with hx
      subst hx
      have k0 := hkc 0 (.bool (tk g)) rfl
      simp only [Nat.mul_one, Nat.add_zero] at k0
      subst hkA
      have hkw : kb < wr.heap.size := Nat.lt_of_lt_of_le hkb hb.size
      have HFit := Lib.hid hfit; have SD := Lib.hid hdS; have SE := Lib.hid heS; have ND := Lib.hid hdn; have NE := Lib.hid hen
      have hbb := ba_bb d e
      obtain ⟨eq, heq⟩ : ∃ eq, decide (d = e) = eq := ⟨_, rfl⟩
      rw [heq] at HFit hbb
      have HEq := Lib.hid hbb
      clear hsc htc hfx hfy hd he hdn hen hdS heS hfit hkc hsA htA hbb heq hTk
      go_upto_region 4 with (fail)
      refine wp_region_ordB (none) [(0, true), (1, true), (2, true), (3, true), (4, true), (5, true), (6, true), (7, true), (8, true), (9, true), (10, true), (11, true), (12, false), (13, true)] (by kernel_rfl) (by kernel_rfl) fun hG0 => ?_
      repeat (first
        | (refine ord_skipB rfl (by rfl) ?_; simp only [Act.put, List.setIfInBounds_toArray, List.set_cons_zero, List.set_cons_succ])
        | (refine ord_qE rfl (by rfl) ?_; apply Exists.intro; refine ⟨fun w' hc' => ?_, ?_⟩; (focus (go_simp; (try go_bits); (try simp only [↓IntWalk.iteOmega]); with_reducible rfl)); simp only [Act.put, List.setIfInBounds_toArray, List.set_cons_zero, List.set_cons_succ]))
      refine ord_eB rfl fun K hK => ?_
      go_wp2_with (go_at_call 43; refine (same11_any _ _ _ d _ _ _ e _ (SD.out.below (below_grown hG0 (Nat.le_refl _) (fun g e => by cases e)) (Nat.le_refl _)) ND.out (SE.out.below (below_grown hG0 (Nat.le_refl _) (fun g e => by cases e)) (Nat.le_refl _)) NE.out).mono ?_; rintro e w5 ⟨rfl, hw⟩; rw [hw, HEq.out]; clear hw)
      have hG1 := grown_trans hG0 (World.grownBy.refl _ _)
      refine hK.out _ _ hG1 ?_
      clear hK K
      repeat (first
        | (refine ord_skipB rfl (by rfl) ?_; simp only [Act.put, List.setIfInBounds_toArray, List.set_cons_zero, List.set_cons_succ])
        | (refine ord_qE rfl (by rfl) ?_; apply Exists.intro; refine ⟨fun w' hc' => ?_, ?_⟩; (focus (go_simp; (try go_bits); (try simp only [↓IntWalk.iteOmega]); with_reducible rfl)); simp only [Act.put, List.setIfInBounds_toArray, List.set_cons_zero, List.set_cons_succ]))
      refine ord_end ?_
      have hB1' := hB1.grown hG1 (by simp); have hB2' := hB2.grown hG1 (by simp)
      have hb' := hb.trans ((below_grown hG1 (Nat.le_refl _) (fun g e => by cases e)).mono hb.size)
      have k0' := (show Below wr.heap.size wr wr.drew from below_grown hG1 (Nat.le_refl _) (fun g e => by cases e)).cell (p := ⟨kb, ko + g, none⟩) hkw
      rw [k0] at k0'
      clear k0 b1 t1 s1 y1 hG0 hG1 hB1 hB2 hb
      cases eq
      · have hn : fits ds es tk f g = false := HFit.out
        have HNo2 := Lib.hid (show ∀ j, j < g + 1 → fits ds es tk f j = false from fun j hj => by
          by_cases ej : j = g
          · subst ej; exact hn
          · exact HNo.out j (by omega))
        clear hn
        go_wp2
        go_roundw
        case rel => exact ⟨g + 1, by omega, by go_num, HNo2.out, hB1', hB2', hb'⟩
        case measure => simp [intOf]; omega
      · cases ht : tk g
        · have hy : fits ds es tk f g = true := by rw [HFit.out, ht]; rfl
          have HAl := Lib.hid (show alikeF ds es tk f = some g from by
            unfold alikeF
            cases hq : (List.range ds.length).find? (fits ds es tk f) with
            | none => have := List.find?_eq_none.1 hq g (List.mem_range.2 (by rw [HDs.out]; exact hlt)); exact absurd hy this
            | some j =>
              obtain ⟨_, q2, q3⟩ := find_range_some hq
              rcases Nat.lt_trichotomy j g with e | e | e
              · rw [HNo.out j e] at q2; cases q2
              · rw [e]
              · rw [q3 g e] at hy; cases hy)
          rw [ht] at k0'
          clear hy ht
          go_wp2
          go_ret
          exact ⟨by rw [HAl.out]; rfl, hb'⟩
        · have hn : fits ds es tk f g = false := by rw [HFit.out, ht]; rfl
          have HNo2 := Lib.hid (show ∀ j, j < g + 1 → fits ds es tk f j = false from fun j hj => by
            by_cases ej : j = g
            · subst ej; exact hn
            · exact HNo.out j (by omega))
          rw [ht] at k0'
          clear hn ht
          go_wp2
          go_roundw
          case rel => exact ⟨g + 1, by omega, by go_num, HNo2.out, hB1', hB2', hb'⟩
          case measure => simp [intOf]; omega
    · obtain rfl : g = s.fn := by omega
      have hgi : ¬ ((s.fn : Nat) : Int) < s.fn := by omega
      have HAl := Lib.hid (show alikeF ds es tk f = none from List.find?_eq_none.2 fun j hj => by rw [HNo.out j (by rw [List.mem_range, HDs.out] at hj; exact hj)]; simp)
      go_wp2
      go_ret
      exact ⟨by rw [HAl.out]; rfl, hb⟩
set_option maxRecDepth 100000 in
set_option maxHeartbeats 4000000 in
theorem named_any (s t : TV) (ds es : List ByteArray) (tk : Nat → Bool) (f : Nat) (hf : f < t.fn) (TA : Option Addr) (tc : Nat) (w : World) (hs : TreeD w s ds) (ht : TreeD w t es) (gs : Good s) (gt : Good t) (hT : Sl w w.heap.size 1 TA s.fn ((takenL tk s.fn).flatMap boolL)) :
    Calls Try.prog 41 #[s.val, t.val, .int .i64 f, .slice TA s.fn tc] w (IntRes (optI (namedF s.nodes ds es tk f (namesP t.nodes f))) w) := by
  have hds : ds.length = s.fn := hs.dat.len.trans hs.tree.fl
  have hsm := hs.tree.fm; have htm := ht.tree.fm; have hnm := gs.nn; have hnm2 := gt.nn
  have hnl := hs.tree.nl
  have hnames := fun W (h : TreeAt W t) => rnames6_any t (f : Int) W h (by omega)
  have hfind := fun p W (h : TreeAt W s) => rfind_any s p W h
  obtain ⟨ps, hps⟩ : ∃ ps, namesP t.nodes f = ps := ⟨_, rfl⟩
  rw [show picks (namesF (f : Int)) t.nodes = ps from hps] at hnames
  rw [hps]
  have HPl := Lib.hid (show ps.length ≤ t.nn by rw [← hps]; unfold namesP; rw [picks_count, ← ht.tree.nl]; exact List.countP_le_length)
  have HS := Lib.hid hs; have HT := Lib.hid ht; have HTk := Lib.hid hT; have HDs := Lib.hid hds; have Gs := Lib.hid gs; have HNl := Lib.hid hnl
  unfold TV.val at hnames hfind ⊢
  have HNa := Lib.hid hnames; have HFi := Lib.hid hfind
  clear hs ht hT hds gs gt hnl hnames hfind hps
  have hB1 := (Blk.new w 25 #[.slice s.NA s.nn s.nc, .slice s.FA s.fn s.fc]).alloc (.cells #[.slice t.NA t.nn t.nc, .slice t.FA t.fn t.fc] 25)
  have hB2 := Blk.new (w.alloc (.cells #[.slice s.NA s.nn s.nc, .slice s.FA s.fn s.fc] 25)) 25 #[.slice t.NA t.nn t.nc, .slice t.FA t.fn t.fc]
  have hb := ((Below.refl w.heap.size w).alloc (Nat.le_refl _) (.cells #[.slice s.NA s.nn s.nc, .slice s.FA s.fn s.fc] 25)).alloc (by simp) (.cells #[.slice t.NA t.nn t.nc, .slice t.FA t.fn t.fc] 25)
  simp only [World.size_alloc] at hB2
  have t0 := hB2.cell 0; have t1 := hB2.cell 1
  have hBl1 := hB1.lt; have hBl2 := hB2.lt
  go_enter Try.func41, Try.ntmps41
  go_upto_region 2 with (go_at_call 15; refine (HNa.out _ (HT.out.tree.keep hb)).mono ?_; rintro e w5 ⟨A5, n5, c5, rfl, hn5, hS5, hb5⟩)
  replace hB1 := hB1.below hb5 hBl1; replace hB2 := hB2.below hb5 hBl2
  replace hb := hb.trans (hb5.mono hb.size)
  have hn5m : n5 ≤ 256 := by rw [← hn5]; have := HPl.out; omega
  have HS5 := Lib.hid hS5; have Hn5 := Lib.hid hn5
  have hw5 := Nat.le_refl w5.heap.size
  clear t0 t1 hb5 hS5 hn5 hBl1 hBl2
  go_wp2
  go_loopw [10] (fun v wr => ∃ k : Nat, k ≤ n5 ∧ v = .int .i64 k ∧ namedF s.nodes ds es tk f ps = namedF s.nodes ds es tk f (ps.drop k) ∧ Blk wr w.heap.size 25 #[.slice s.NA s.nn s.nc, .slice s.FA s.fn s.fc] ∧ Blk wr (w.heap.size + 1) 25 #[.slice t.NA t.nn t.nc, .slice t.FA t.fn t.fc] ∧ Below w.heap.size w wr ∧ Below w5.heap.size w5 wr) (fun v _ => n5 - (intOf v).toNat)
  case atStart => exact ⟨0, Nat.zero_le _, rfl, rfl, hB1, hB2, hb, Below.refl _ _⟩
  case round =>
    clear hB1 hB2 hb
    obtain ⟨k, hk, rfl, hrun, hB1, hB2, hb, hb5⟩ := hrel
    have HRun := Lib.hid hrun; clear hrun
    have b0 := hB1.cell 0; have b1 := hB1.cell 1; have t1 := hB2.cell 1
    have hBl1 := hB1.lt; have hBl2 := hB2.lt
    by_cases hlt : k < n5
    · have hki : (k : Int) < n5 := by omega
      obtain ⟨qb, qo, p, rfl, hqb, hp, hpc⟩ := (HS5.out.below hb5 (Nat.le_refl _)).get strOf_len Hn5.out hlt
      have p0 := hpc 0 _ rfl
      simp only [Nat.add_zero, Nat.mul_one] at p0
      have hqw : qb < wr.heap.size := Nat.lt_of_lt_of_le hqb hb5.size
      have hdrop : namedF s.nodes ds es tk f (ps.drop k) = match fileOfP s.nodes p with
          | some g => if fits ds es tk f g = true then some g else namedF s.nodes ds es tk f (ps.drop (k + 1))
          | none => namedF s.nodes ds es tk f (ps.drop (k + 1)) := by rw [drop_at' hp, namedF]; rfl
      have HDr := Lib.hid hdrop
      have hno := @fileOf_no s.nodes p
      have hat := fun j => @fileOf_at s.nodes p j Gs.out.rises
      have hfs := findFrom_spec p s.nodes 0
      obtain ⟨K, hK⟩ : ∃ K, findI s.nodes p = K := ⟨_, rfl⟩
      have hF := HFi.out p
      rw [hK] at hno hat hF
      rw [show findFrom p s.nodes 0 = K from hK] at hfs
      have HF := Lib.hid hF; have HNo := Lib.hid hno; have HAt := Lib.hid hat
      have hKc : K = -1 ∨ ∃ j : Nat, K = j ∧ j < s.nn := by
        rcases hfs with ⟨h, _⟩ | ⟨j, y, h1, h2, _⟩
        · exact .inl h
        · exact .inr ⟨j, by omega, by rw [← HNl.out]; exact (List.getElem?_eq_some_iff.1 h2).1⟩
      clear hno hat hF hfs hK hp hpc hdrop
      go_upto_region 5 with (fail)
      refine wp_region_ordB (none) [(0, true), (1, true), (2, true), (3, true), (4, true), (5, false), (6, true)] (by kernel_rfl) (by kernel_rfl) fun hG0 => ?_
      repeat (first
        | (refine ord_skipB rfl (by rfl) ?_; simp only [Act.put, List.setIfInBounds_toArray, List.set_cons_zero, List.set_cons_succ])
        | (refine ord_qE rfl (by rfl) ?_; apply Exists.intro; refine ⟨fun w' hc' => ?_, ?_⟩; (focus (go_simp; (try go_bits); (try simp only [↓IntWalk.iteOmega]); with_reducible rfl)); simp only [Act.put, List.setIfInBounds_toArray, List.set_cons_zero, List.set_cons_succ]))
      refine ord_eB rfl fun K hK => ?_
      go_wp2_with (go_at_call 16; refine (HF.out _ (HS.out.tree.keep (hb.trans ((below_grown hG0 (Nat.le_refl _) (fun g e => by cases e)).mono hb.size)))).mono ?_; rintro e w6 ⟨rfl, hb6⟩)
      have hG1 := grown_trans hG0 (grown_below hb6 (Nat.le_refl _))
      refine hK.out _ _ hG1 ?_
      clear hK K
      repeat (first
        | (refine ord_skipB rfl (by rfl) ?_; simp only [Act.put, List.setIfInBounds_toArray, List.set_cons_zero, List.set_cons_succ])
        | (refine ord_qE rfl (by rfl) ?_; apply Exists.intro; refine ⟨fun w' hc' => ?_, ?_⟩; (focus (go_simp; (try go_bits); (try simp only [↓IntWalk.iteOmega]); with_reducible rfl)); simp only [Act.put, List.setIfInBounds_toArray, List.set_cons_zero, List.set_cons_succ]))
      refine ord_end ?_
      have hb6' : Below wr.heap.size wr w6 := below_grown hG1 (Nat.le_refl _) (fun g e => by cases e)
      replace hB1 := hB1.below hb6' hBl1; replace hB2 := hB2.below hb6' hBl2
      replace hb := hb.trans (hb6'.mono hb.size); replace hb5 := hb5.trans (hb6'.mono hb5.size)
      clear p0 b0 b1 t1 hG0 hG1 hb6 hb6' hBl1 hBl2 hqw
      have b0 := hB1.cell 0; have b1 := hB1.cell 1; have t1 := hB2.cell 1
      have hBl1 := hB1.lt; have hBl2 := hB2.lt
      rcases hKc with rfl | ⟨j, rfl, hj⟩
      · have HRun2 := Lib.hid (show namedF s.nodes ds es tk f ps = namedF s.nodes ds es tk f (ps.drop (k + 1)) by rw [HRun.out, HDr.out, HNo.out rfl])
        go_wp2
        go_roundw
        case rel => exact ⟨k + 1, by omega, by go_num, HRun2.out, hB1, hB2, hb, hb5⟩
        case measure => simp [intOf]; omega
      · have hj1 : ¬ (j : Int) < 0 := by omega
        have hj0 : (0 : Int) ≤ j := by omega
        have hji : (j : Int) < s.nn := by omega
        obtain ⟨y, hy, hfo⟩ := HAt.out j rfl
        have hSr := HS.out.keep hb
        obtain ⟨nb, no, y', hNA, hnb, hy', hyc⟩ := hSr.tree.ns.get Node.len hSr.tree.nl hj
        obtain rfl : y = y' := by rw [hy] at hy'; injection hy'
        rw [hNA] at b0
        have y1 := hyc 1 _ rfl
        have hkind := Gs.out.kind y (List.mem_of_getElem? hy)
        have HFo := Lib.hid hfo
        have hkind2 : y.file = -1 ∨ ∃ g : Nat, y.file = g ∧ g < s.fn := by
          rcases hkind with ⟨h, _⟩ | ⟨h1, h2, _⟩
          · exact .inl h
          · obtain ⟨g, hg⟩ := Int.eq_ofNat_of_zero_le h1
            exact .inr ⟨g, hg, by omega⟩
        clear hy hfo hyc hy' hNA hkind hSr
        rcases hkind2 with h1 | ⟨g, h1, hg⟩
        · have HRun2 := Lib.hid (show namedF s.nodes ds es tk f ps = namedF s.nodes ds es tk f (ps.drop (k + 1)) by rw [HRun.out, HDr.out, HFo.out, if_pos (by omega)])
          rw [h1] at y1
          clear h1
          go_wp2
          go_roundw
          case rel => exact ⟨k + 1, by omega, by go_num, HRun2.out, hB1, hB2, hb, hb5⟩
          case measure => simp [intOf]; omega
        · rw [h1] at y1
          have hg1 : ((g : Int) == -1) = false := beq_eq_false_iff_ne.2 (by omega)
          have hg0 : (0 : Int) ≤ g := by omega
          have hgi : (g : Int) < s.fn := by omega
          have hfi : (f : Int) < t.fn := by omega
          have HD2 := Lib.hid (show namedF s.nodes ds es tk f ps = if fits ds es tk f g = true then some g else namedF s.nodes ds es tk f (ps.drop (k + 1)) by rw [HRun.out, HDr.out, HFo.out, if_neg (by omega), h1]; rfl)
          have hSr := HS.out.keep hb; have hTr := HT.out.keep hb
          obtain ⟨sb, so, fx, hsA, hsb, hfx, hsc⟩ := hSr.tree.fs.get FC.len hSr.tree.fl hg
          obtain ⟨tb, to_, fy, htA, htb, hfy, htc⟩ := hTr.tree.fs.get FC.len hTr.tree.fl hf
          rw [hsA] at b1; rw [htA] at t1
          obtain ⟨d, hd, hdn, hdS⟩ := hSr.dat.get hfx
          obtain ⟨e, he, hen, heS⟩ := hTr.dat.get hfy
          have s1 := hsc 1 _ rfl; have e1 := htc 1 _ rfl
          have hfit : fits ds es tk f g = (decide (d = e) && !tk g) := by
            unfold fits
            rw [hd, he]
            simp
          have hTk := HTk.out.below hb (Nat.le_refl _)
          obtain ⟨kb, ko, x, hkA, hkb, hx, hkc⟩ := hTk.get (f := boolL) (sz := 1) (fun _ => rfl) (takenL_len _ _) hg
          rw [takenL_get hg] at hx
          injection hx with hx
          subst hx
          have k0 := hkc 0 (.bool (tk g)) rfl
          simp only [Nat.mul_one, Nat.add_zero] at k0
          subst hkA
          have hkw : kb < w6.heap.size := Nat.lt_of_lt_of_le hkb hb.size
          have HFit := Lib.hid hfit; have SD := Lib.hid hdS; have SE := Lib.hid heS; have ND := Lib.hid hdn; have NE := Lib.hid hen
          have hbb := ba_bb d e
          obtain ⟨eq, heq⟩ : ∃ eq, decide (d = e) = eq := ⟨_, rfl⟩
          rw [heq] at HFit hbb
          have HEq := Lib.hid hbb
          clear hsc htc hfx hfy hd he hdn hen hdS heS hfit hkc hsA htA hbb heq hTk h1 HRun HDr HFo hSr hTr
          go_upto_region 8 with (fail)
          refine wp_region_ordB (none) [(0, true), (1, true), (2, true), (3, true), (4, true), (5, true), (6, true), (7, true), (8, true), (9, true), (10, true), (11, true), (12, false), (13, true)] (by kernel_rfl) (by kernel_rfl) fun hG0 => ?_
          repeat (first
            | (refine ord_skipB rfl (by rfl) ?_; simp only [Act.put, List.setIfInBounds_toArray, List.set_cons_zero, List.set_cons_succ])
            | (refine ord_qE rfl (by rfl) ?_; apply Exists.intro; refine ⟨fun w' hc' => ?_, ?_⟩; (focus (go_simp; (try go_bits); (try simp only [↓IntWalk.iteOmega]); with_reducible rfl)); simp only [Act.put, List.setIfInBounds_toArray, List.set_cons_zero, List.set_cons_succ]))
          refine ord_eB rfl fun K hK => ?_
          go_wp2_with (go_at_call 43; refine (same11_any _ _ _ d _ _ _ e _ (SD.out.below (below_grown hG0 (Nat.le_refl _) (fun g e => by cases e)) (Nat.le_refl _)) ND.out (SE.out.below (below_grown hG0 (Nat.le_refl _) (fun g e => by cases e)) (Nat.le_refl _)) NE.out).mono ?_; rintro e w7 ⟨rfl, hw⟩; rw [hw, HEq.out]; clear hw)
          have hG1 := grown_trans hG0 (World.grownBy.refl _ _)
          refine hK.out _ _ hG1 ?_
          clear hK K
          repeat (first
            | (refine ord_skipB rfl (by rfl) ?_; simp only [Act.put, List.setIfInBounds_toArray, List.set_cons_zero, List.set_cons_succ])
            | (refine ord_qE rfl (by rfl) ?_; apply Exists.intro; refine ⟨fun w' hc' => ?_, ?_⟩; (focus (go_simp; (try go_bits); (try simp only [↓IntWalk.iteOmega]); with_reducible rfl)); simp only [Act.put, List.setIfInBounds_toArray, List.set_cons_zero, List.set_cons_succ]))
          refine ord_end ?_
          have hb7 : Below w6.heap.size w6 w6.drew := below_grown hG1 (Nat.le_refl _) (fun g e => by cases e)
          have hB1' := hB1.below hb7 hBl1; have hB2' := hB2.below hb7 hBl2
          have hb' := hb.trans (hb7.mono hb.size); have hb5' := hb5.trans (hb7.mono hb5.size)
          have k0' := hb7.cell (p := ⟨kb, ko + g, none⟩) hkw
          rw [k0] at k0'
          clear k0 b0 b1 t1 s1 e1 y1 hG0 hG1 hB1 hB2 hb hb5 hb7
          cases eq
          · have HRun2 := Lib.hid (show namedF s.nodes ds es tk f ps = namedF s.nodes ds es tk f (ps.drop (k + 1)) by rw [HD2.out, HFit.out]; rfl)
            go_wp2
            go_roundw
            case rel => exact ⟨k + 1, by omega, by go_num, HRun2.out, hB1', hB2', hb', hb5'⟩
            case measure => simp [intOf]; omega
          · cases ht : tk g
            · have HRun2 := Lib.hid (show namedF s.nodes ds es tk f ps = some g by rw [HD2.out, HFit.out, ht]; rfl)
              rw [ht] at k0'
              clear ht
              go_wp2
              go_ret
              exact ⟨by rw [HRun2.out]; rfl, hb'⟩
            · have HRun2 := Lib.hid (show namedF s.nodes ds es tk f ps = namedF s.nodes ds es tk f (ps.drop (k + 1)) by rw [HD2.out, HFit.out, ht]; rfl)
              rw [ht] at k0'
              clear ht
              go_wp2
              go_roundw
              case rel => exact ⟨k + 1, by omega, by go_num, HRun2.out, hB1', hB2', hb', hb5'⟩
              case measure => simp [intOf]; omega
    · obtain rfl : k = n5 := by omega
      have hki : ¬ (k : Int) < k := by omega
      have HEnd := Lib.hid (show namedF s.nodes ds es tk f ps = none by rw [HRun.out, List.drop_of_length_le (by rw [Hn5.out]; exact Nat.le_refl _)]; rfl)
      go_wp2
      go_ret
      exact ⟨by rw [HEnd.out]; rfl, hb⟩
end Go.Proofs.Ytcnpncieibmngaa

namespace Go.Proofs.Ytcnpncieibmngaa
open Go.RowKit

/-- The two first rounds, in one. -/
def inSt (ns nt : List Node) (ds es : List ByteArray) (p f : Nat) : MS := if p = 1 then upto1 ns nt ds es f else upto2 ns nt ds es f
def pickSt (ns nt : List Node) (ds es : List ByteArray) (p f : Nat) : Option Nat := if p = 1 then namedF ns ds es (inSt ns nt ds es p f).2 f (namesP nt f) else alikeF ds es (inSt ns nt ds es p f).2 f
theorem inSt_len (ns nt : List Node) (ds es : List ByteArray) (p f : Nat) : (inSt ns nt ds es p f).1.length = es.length := by
  unfold inSt
  split
  · exact upto1_len _ _ _ _ _
  · exact upto2_len _ _ _ _ _
theorem kind1 (ns nt : List Node) (ds es : List ByteArray) : ∀ (n f : Nat), n ≤ f → kindAt (upto1 ns nt ds es n).1 f = 0
  | 0, f, _ => by
    unfold kindAt
    simp only [upto1]
    rw [List.getElem?_replicate]
    split <;> rfl
  | n + 1, f, h => by
    rw [upto1, step1]
    unfold setK
    split
    · have h1 : n ≠ f := by omega
      have h2 := kind1 ns nt ds es n f (by omega)
      unfold kindAt at h2 ⊢
      simp only
      rw [List.getElem?_set_ne h1]
      exact h2
    · exact kind1 ns nt ds es n f (by omega)
theorem in_step (ns nt : List Node) (ds es : List ByteArray) (p f : Nat) (hp : p = 1 ∨ p = 2) : inSt ns nt ds es p (f + 1) = if kindAt (inSt ns nt ds es p f).1 f = 0 then setK f (pickSt ns nt ds es p f) (inSt ns nt ds es p f) else inSt ns nt ds es p f := by
  rcases hp with rfl | rfl
  · unfold pickSt inSt
    simp only [if_true]
    rw [if_pos (kind1 ns nt ds es f f (Nat.le_refl _)), upto1, step1]
  · unfold pickSt inSt
    simp only [Nat.reduceEqDiff, if_false]
    rw [upto2, step2]
theorem namedF_fits {ns : List Node} {ds es : List ByteArray} {tk : Nat → Bool} {f g : Nat} : ∀ {ps : List ByteArray}, namedF ns ds es tk f ps = some g → fits ds es tk f g = true
  | [], h => by cases h
  | p :: r, h => by
    rw [namedF] at h
    split at h
    · split at h
      · injection h with h; subst h; assumption
      · exact namedF_fits h
    · exact namedF_fits h
theorem pick_fits {ns nt : List Node} {ds es : List ByteArray} {p f g : Nat} (h : pickSt ns nt ds es p f = some g) : fits ds es (inSt ns nt ds es p f).2 f g = true := by
  unfold pickSt at h
  split at h
  · exact namedF_fits h
  · unfold alikeF at h
    exact (find_range_some h).2.1
theorem fits_lt {ds es : List ByteArray} {tk : Nat → Bool} {f g : Nat} (hf : f < es.length) (h : fits ds es tk f g = true) : g < ds.length := by
  have h2 := (fits_iff.1 h).1
  rw [List.getElem?_eq_getElem hf] at h2
  exact (List.getElem?_eq_some_iff.1 h2).1
theorem kind_cases {ns nt : List Node} {ds es : List ByteArray} {p f i : Nat} : kindAt (inSt ns nt ds es p f).1 i = 0 ∨ kindAt (inSt ns nt ds es p f).1 i = 1 := by
  by_cases h : kindAt (inSt ns nt ds es p f).1 i = 0
  · exact .inl h
  · right
    have key : ∀ st : MS, (∀ i, kindAt st.1 i = 0 ∨ kindAt st.1 i = 1) → ∀ f o i, kindAt (setK f o st).1 i = 0 ∨ kindAt (setK f o st).1 i = 1 := fun st hst f o i => by
      unfold setK
      split
      · by_cases hf : f < st.1.length
        · rw [kindAt_set _ _ _ _ hf]
          split
          · exact .inr rfl
          · exact hst i
        · rw [List.set_eq_of_length_le (by omega)]; exact hst i
      · exact hst i
    have h1 : ∀ n i, kindAt (upto1 ns nt ds es n).1 i = 0 ∨ kindAt (upto1 ns nt ds es n).1 i = 1 := fun n => by
      induction n with
      | zero => exact fun i => .inl (kind1 ns nt ds es 0 i (Nat.zero_le _))
      | succ n ih => rw [upto1, step1]; exact key _ ih _ _
    have h2 : ∀ n i, kindAt (upto2 ns nt ds es n).1 i = 0 ∨ kindAt (upto2 ns nt ds es n).1 i = 1 := fun n => by
      induction n with
      | zero => exact fun i => h1 es.length i
      | succ n ih =>
        rw [upto2, step2]
        intro i
        split
        · exact key _ ih _ _ i
        · exact ih i
    have h3 : kindAt (inSt ns nt ds es p f).1 i = 0 ∨ kindAt (inSt ns nt ds es p f).1 i = 1 := by
      unfold inSt
      split
      · exact h1 f i
      · exact h2 f i
    exact h3.resolve_left h
theorem taken_set {tk : Nat → Bool} {m g : Nat} : (takenL tk m).set g true = takenL (fun x => x == g || tk x) m := by
  apply List.ext_getElem?
  intro j
  rw [List.getElem?_set]
  by_cases e : g = j
  · subst e
    by_cases h : g < m
    · rw [if_pos rfl, if_pos (by rw [takenL_len]; exact h), takenL_get h]; simp
    · rw [if_pos rfl, if_neg (by rw [takenL_len]; exact h), List.getElem?_eq_none (by rw [takenL_len]; omega)]
  · rw [if_neg e]
    by_cases h : j < m
    · rw [takenL_get h, takenL_get h]
      have : (j == g) = false := beq_eq_false_iff_ne.2 (fun h => e h.symm)
      rw [this]; rfl
    · rw [List.getElem?_eq_none (by rw [takenL_len]; omega), List.getElem?_eq_none (by rw [takenL_len]; omega)]
/-- What stands in shuntref11.Match's memory. -/
structure RM (w : World) (s t : TV) (base og ug : Nat) (out : List Src) (tk : Nat → Bool) (W : World) : Prop where
  oR : W.ownsRow base 35 3 (.slice (some ⟨og, 0, none⟩) t.fn t.fn) t.fn (out.flatMap Src.list)
  uR : W.ownsRow base 4 1 (.slice (some ⟨ug, 0, none⟩) s.fn s.fn) s.fn ((takenL tk s.fn).flatMap boolL)
  sB : Blk W w.heap.size 25 #[.slice s.NA s.nn s.nc, .slice s.FA s.fn s.fc]
  tB : Blk W (w.heap.size + 1) 25 #[.slice t.NA t.nn t.nc, .slice t.FA t.fn t.fc]
  below : Below w.heap.size w W
theorem RM.keep {w : World} {s t : TV} {base og ug : Nat} {out : List Src} {tk : Nat → Bool} {W W' : World} (h : RM w s t base og ug out tk W) (hb : Below W.heap.size W W') : RM w s t base og ug out tk W' :=
  ⟨own_keep h.oR fun g o e => hb.block g (own_lt2 (by rw [← e]; exact h.oR)).2.1, own_keep h.uR fun g o e => hb.block g (own_lt2 (by rw [← e]; exact h.uR)).2.1, h.sB.below hb h.sB.lt, h.tB.below hb h.tB.lt, h.below.trans (hb.mono h.below.size)⟩
theorem RM.src {w : World} {s t : TV} {base og ug : Nat} {out : List Src} {tk : Nat → Bool} {W : World} (h : RM w s t base og ug out tk W) {i : Nat} {x : Src} (hx : out[i]? = some x) : W.cell? ⟨og, i * 3, none⟩ = some (.int .i64 x.kind) := by
  have := (own_row h.oR).1 (i * 3 + 0) _ (flat_get Src.len hx (j := 0) (by omega))
  simpa using this
theorem RM.setO {w : World} {s t : TV} {base og ug : Nat} {out out' : List Src} {tk : Nat → Bool} {W W' : World} (h : RM w s t base og ug out tk W) (hbs : w.heap.size + 1 < base) (ho : W'.ownsRow base 35 3 (.slice (some ⟨og, 0, none⟩) t.fn t.fn) t.fn (out'.flatMap Src.list)) (hg : W.grownBy W' (some og)) : RM w s t base og ug out' tk W' := by
  have hog := (own_lt2 h.oR).1
  refine ⟨ho, own_keep h.uR fun g o e => hg.block g (own_lt2 (by rw [← e]; exact h.uR)).2.1 fun e2 => ?_, h.sB.grown hg (fun e => by injection e with e; omega), h.tB.grown hg (fun e => by injection e with e; omega), h.below.trans (below_grown hg h.below.size fun g e => by injection e with e; omega)⟩
  exact row_ne_row h.uR h.oR (by decide) (by rw [e]; rfl) e2
theorem RM.setU {w : World} {s t : TV} {base og ug g : Nat} {out : List Src} {tk : Nat → Bool} {W : World} (h : RM w s t base og ug out tk W) (hbs : w.heap.size + 1 < base) (hgs : g < s.fn) : RM w s t base og ug out (fun x => x == g || tk x) (W.setCell ⟨ug, g, none⟩ (.bool true)) := by
  have hug := (own_lt2 h.uR).1
  obtain ⟨cur, hBc⟩ := own_cur h.uR
  have hset := setc_own (i := g * 1 + 0) h.uR (.bool true)
  rw [flat_setj (f := boolL) (sz := 1) (fun _ => rfl) (takenL_get (tk := tk) hgs) (j := 0) (x' := true) (by omega) rfl, taken_set] at hset
  simp only [Nat.mul_one, Nat.add_zero] at hset
  exact ⟨own_blkset h.oR hBc (by decide) _ _, hset, h.sB.set_ne _ _ (by show w.heap.size ≠ ug; omega), h.tB.set_ne _ _ (by show w.heap.size + 1 ≠ ug; omega), h.below.setCell (p := ⟨ug, g, none⟩) (by show w.heap.size ≤ ug; omega) _⟩
theorem inSt_12 (ns nt : List Node) (ds es : List ByteArray) : inSt ns nt ds es 1 es.length = inSt ns nt ds es 2 0 := rfl
/-- Where the third round is done with, no new content stands beyond. -/
theorem new_low {ns nt : List Node} {ds es sd : List ByteArray} {n : Nat} {o : List Src} (hn : n ≤ es.length) (h : upto3 ns nt ds es sd n = some o) {g : Nat} (hg : kindAt o g = 3) : g < n := by
  have hD := done3 ns nt ds es sd n o hn h
  rcases Nat.lt_or_ge g n with e | e
  · exact e
  · exfalso
    rcases Nat.lt_or_ge g es.length with e2 | e2
    · rcases hD.rest g e e2 with h1 | ⟨g', h1, _⟩
      · rw [kind_some h1] at hg; cases hg
      · rw [kind_some h1] at hg; cases hg
    · unfold kindAt at hg
      rw [List.getElem?_eq_none (by rw [hD.len]; exact e2)] at hg
      cases hg
end Go.Proofs.Ytcnpncieibmngaa
