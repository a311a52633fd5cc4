/- shuntref7.Look, vacant, file: what is at a path of a tree, by its prefixes. shuntref7.first: the errors that the tree does not matter for. -/
import Derived.Test.YthmeffpickejkaaGreatCmd
import Derived.Test.YthmeffpickejkaaGreatGood
import Derived.Test.YthmeffpickejkaaGreatKit
import Derived.Test.YthmeffpickejkaaGreatLaw7

namespace Go.Proofs.YthmeffpickejkaaGreat
open Go.RowKit

/-- Parts with slashes between them. -/
def joinS : List (List UInt8) → List UInt8
  | [] => []
  | [a] => a
  | a :: b :: t => a ++ 47 :: joinS (b :: t)
theorem cut_join : ∀ (l cur : List UInt8), joinS (cutL l cur) = cur ++ l
  | [], cur => by simp [cutL, joinS]
  | c :: t, cur => by
    rw [cutL]
    split
    · rename_i h
      have h1 := cut_join t []
      have h2 := (cutL_len t []).1
      rcases hq : cutL t [] with _ | ⟨b, u⟩
      · rw [hq] at h2; simp at h2
      · rw [hq] at h1
        rw [joinS, h1, List.nil_append]
        congr 2
        exact (UInt8.toNat.inj (by simpa using h)).symm
    · rw [cut_join t (cur ++ [c]), List.append_assoc]; rfl
theorem cut_no : ∀ (l cur : List UInt8), (∀ c ∈ cur, c ≠ 47) → ∀ a ∈ cutL l cur, ∀ c ∈ a, c ≠ 47
  | [], cur, h, a, ha => by
    simp only [cutL, List.mem_singleton] at ha
    subst ha; exact h
  | c :: t, cur, h, a, ha => by
    rw [cutL] at ha
    split at ha
    · rcases List.mem_cons.1 ha with rfl | ha
      · exact h
      · exact cut_no t [] (fun _ h => by cases h) a ha
    · rename_i hc
      refine cut_no t (cur ++ [c]) (fun d hd => ?_) a ha
      rcases List.mem_append.1 hd with hd | hd
      · exact h d hd
      · rw [List.mem_singleton.1 hd]
        intro e; rw [e] at hc; exact hc rfl
/-- Where a part begins. -/
def posS (ds : List (List UInt8)) (i : Nat) : Nat := ((ds.take i).map fun a => a.length + 1).sum
theorem posS_succ {ds : List (List UInt8)} {i : Nat} {a : List UInt8} (h : ds[i]? = some a) : posS ds (i + 1) = posS ds i + (a.length + 1) := by
  rw [posS, posS, take_snoc' h, List.map_append, List.sum_append]; simp
theorem drop_join : ∀ (ds : List (List UInt8)) (i : Nat), i < ds.length → (joinS ds).drop (posS ds i) = joinS (ds.drop i)
  | [], i, h => by simp at h
  | a :: t, 0, _ => by simp [posS]
  | [a], i + 1, h => by simp at h
  | a :: b :: t, i + 1, h => by
    have ih := drop_join (b :: t) i (by simpa using h)
    have e : posS (a :: b :: t) (i + 1) = (a.length + 1) + posS (b :: t) i := by simp [posS]
    rw [e, joinS, List.drop_succ_cons, ← ih]
    rw [show a ++ 47 :: joinS (b :: t) = (a ++ [47]) ++ joinS (b :: t) by simp, show a.length + 1 + posS (b :: t) i = (a ++ [47]).length + posS (b :: t) i by simp, List.drop_append]
    simp
/-- A part that another one stands behind. -/
theorem part_mid {D : List UInt8} {ds : List (List UInt8)} (hD : joinS ds = D) {i : Nat} {a : List UInt8} (ha : ds[i]? = some a) (hi : i + 1 < ds.length) :
    D.drop (posS ds i) = a ++ 47 :: D.drop (posS ds (i + 1)) := by
  have h1 := drop_join ds i (by omega)
  have h2 := drop_join ds (i + 1) hi
  rw [hD] at h1 h2
  obtain ⟨b, hb⟩ : ∃ b, ds[i + 1]? = some b := ⟨_, List.getElem?_eq_getElem hi⟩
  rw [h1, h2, drop_at' ha, drop_at' hb, joinS]
theorem part_last {D : List UInt8} {ds : List (List UInt8)} (hD : joinS ds = D) {i : Nat} {a : List UInt8} (ha : ds[i]? = some a) (hi : i + 1 = ds.length) : D.drop (posS ds i) = a := by
  have h1 := drop_join ds i (by omega)
  rw [hD] at h1
  rw [h1, drop_at' ha, List.drop_of_length_le (by omega), joinS]
theorem lookGo_skip (l : List Node) (p : ByteArray) (n : Nat) : ∀ (m pos : Nat), (∀ j, j < m → p.data.toList[pos + j]? ≠ some 47) → lookGo l p (m + n) pos = lookGo l p n (pos + m)
  | 0, pos, _ => by rw [Nat.zero_add, Nat.add_zero]
  | m + 1, pos, h => by
    rw [show m + 1 + n = (m + n) + 1 by omega, lookGo, if_neg (show ¬ p.data.toList[pos]? = some 47 from by have := h 0 (by omega); rwa [Nat.add_zero] at this), lookGo_skip l p n m (pos + 1) (fun j hj => by have := h (j + 1) (by omega); rwa [show pos + (j + 1) = pos + 1 + j by omega] at this)]
    congr 1; omega
/-- What Look goes by: behind i parts. -/
theorem look_part {l : List Node} {p : ByteArray} {ds : List (List UInt8)} (hD : joinS ds = p.data.toList) (hn : ∀ a ∈ ds, ∀ c ∈ a, c ≠ 47) {i : Nat} {a : List UInt8} (ha : ds[i]? = some a) (hi : i + 1 < ds.length) :
    posS ds (i + 1) ≤ p.size ∧ lookGo l p (p.size - posS ds i) (posS ds i) = (match nodeAt l (p.extract 0 (posS ds i + a.length)) with
      | none => 21
      | some x => if 0 ≤ x.file then 22 else lookGo l p (p.size - posS ds (i + 1)) (posS ds (i + 1))) ∧
    p.data.toList.take (posS ds i) ++ a = p.data.toList.take (posS ds i + a.length) ∧ p.data.toList.take (posS ds i + a.length) ++ [47] = p.data.toList.take (posS ds (i + 1)) := by
  have hm := part_mid hD ha hi
  have hs := posS_succ ha
  have hlen : p.data.toList.length = p.size := dlen p
  have hL := congrArg List.length hm
  rw [List.length_drop, List.length_append, List.length_cons, List.length_drop, hlen] at hL
  have hpos : posS ds (i + 1) ≤ p.size := by
    by_cases h : posS ds (i + 1) ≤ p.size
    · exact h
    · exfalso
      omega
  have hget : ∀ j, p.data.toList[posS ds i + j]? = (a ++ 47 :: p.data.toList.drop (posS ds (i + 1)))[j]? := fun j => by rw [← hm, List.getElem?_drop]
  have hta : p.data.toList.take (posS ds i + a.length) = p.data.toList.take (posS ds i) ++ a := by
    rw [List.take_add, hm]; simp
  refine ⟨hpos, ?_, hta.symm, ?_⟩
  · have e : p.size - posS ds i = a.length + ((p.size - posS ds (i + 1)) + 1) := by omega
    rw [e, lookGo_skip l p _ a.length _ (fun j hj => by
      rw [hget j, List.getElem?_append_left hj, List.getElem?_eq_getElem hj]
      intro e; injection e with e
      exact hn a (List.mem_of_getElem? ha) _ (List.getElem_mem hj) e), lookGo, if_pos (by rw [hget, List.getElem?_append_right (Nat.le_refl _), Nat.sub_self]; rfl), hs]
    rfl
  · rw [hs, ← Nat.add_assoc, take_snoc' (x := 47)]
    rw [hget, List.getElem?_append_right (Nat.le_refl _), Nat.sub_self]; rfl
theorem look_end {l : List Node} {p : ByteArray} {ds : List (List UInt8)} (hD : joinS ds = p.data.toList) (hn : ∀ a ∈ ds, ∀ c ∈ a, c ≠ 47) {i : Nat} {a : List UInt8} (ha : ds[i]? = some a) (hi : i + 1 = ds.length) : lookGo l p (p.size - posS ds i) (posS ds i) = 0 := by
  have hm := part_last hD ha hi
  have hL := congrArg List.length hm
  rw [List.length_drop, dlen] at hL
  rw [show p.size - posS ds i = a.length + 0 by omega, lookGo_skip l p 0 a.length _ (fun j hj => by
    have : p.data.toList[posS ds i + j]? = a[j]? := by rw [← hm, List.getElem?_drop]
    rw [this, List.getElem?_eq_getElem hj]
    intro e; injection e with e
    exact hn a (List.mem_of_getElem? ha) _ (List.getElem_mem hj) e), lookGo]
theorem find_at {l : List Node} (hA : Apart l) (q : ByteArray) : (nodeAt l q = none ∧ findI l q = -1) ∨ ∃ (k : Nat) (x : Node), nodeAt l q = some x ∧ findI l q = k ∧ l[k]? = some x := by
  rcases findFrom_spec q l 0 with ⟨h1, h2⟩ | ⟨j, y, h1, h2, h3⟩
  · exact .inl ⟨nodeAt_none.2 fun x hx e => h2 x hx (by show x.path.data.toList = _; rw [e]), h1⟩
  · refine .inr ⟨j, y, ?_, by rw [findI, h1]; omega, h2⟩
    have e : y.path = q := ba_ext h3
    rw [← e]; exact nodeAt_mem hA (List.mem_of_getElem? h2)
def LookR (l : List Node) (p : ByteArray) (w : World) (e : Ending) (w' : World) : Prop := e = .returned (.tuple #[.int .i64 (if lookE l p = 0 then findI l p else -1), .int .i64 (lookE l p)]) ∧ Below w.heap.size w w'
theorem app_data (a b : ByteArray) : (a ++ b).data.toList = a.data.toList ++ b.data.toList := by simp
theorem cell_below {w w' : World} {b o : Nat} (h : Below w.heap.size w w') (hl : b < w.heap.size) : w'.cell? ⟨b, o, none⟩ = w.cell? ⟨b, o, none⟩ := World.cell?_of_block (h.block b hl)
set_option maxRecDepth 100000 in
set_option maxHeartbeats 4000000 in
theorem rlook_any (t : TV) (p : ByteArray) (w : World) (h : TreeAt w t) (hA : Apart t.nodes) (hK : ∀ x ∈ t.nodes, x.file = -1 ∨ 0 ≤ x.file) (hp : p.size ≤ 9223372036854775807) (hv : validL p.data.toList = true) :
    Calls Tryz.prog 45 #[t.val, .string p] w (LookR t.nodes p w) := by
  have HT := Lib.hid h
  have hns := h.ns
  have hnl := h.nl
  have hfind := fun (W : World) (q : ByteArray) (H : TreeAt W t) => rfind_any t q W H
  have hD := cut_join p.data.toList []
  rw [List.nil_append] at hD
  have hno := cut_no p.data.toList [] (fun _ h => by cases h)
  obtain ⟨ds, hds⟩ : ∃ ds, cutL p.data.toList [] = ds := ⟨_, rfl⟩
  have hdl := (cutL_len p.data.toList []).1
  rw [hds] at hD hno hdl
  have hnames := fun W => rnames_ok p W hp hv
  rw [hds] at hnames
  have HNM := Lib.hid hnames; have HD := Lib.hid hD; have HNO := Lib.hid hno
  have HK := Lib.hid hK
  have hds0 := hds
  obtain ⟨hp100, hdl6⟩ : p.size ≤ 100 ∧ ds.length ≤ 6 := by
    rw [validL_cut] at hv
    simp only [Bool.and_eq_true, decide_eq_true_eq] at hv
    rw [dlen, hds] at hv
    exact ⟨hv.1, hv.2.1⟩
  clear h hnames hds hds0 hD hno hK
  obtain ⟨nodes, files, NA, nn, nc, FA, fn, fc⟩ := t
  simp only at hns hnl hA HK ⊢
  unfold TV.val at hfind ⊢
  have HFIND := Lib.hid hfind; have HS := Lib.hid hns; have Hn := Lib.hid hnl
  clear hfind hns hnl
  have hB := Blk.new w 25 #[.slice NA nn nc, .slice FA fn fc]
  have hb := (Below.refl w.heap.size w).alloc (Nat.le_refl _) (.cells #[.slice NA nn nc, .slice FA fn fc] 25)
  go_enter Tryz.func45, Tryz.ntmps45
  go_upto_region 2 with (go_at_call 64; refine (HNM.out _).mono ?_; rintro e w1 ⟨ps, PA, n, pc, rfl, hpl, hpd, hps, hb1⟩; have hB1 := hB.below hb1 hB.lt; have hbw := hb.trans (hb1.mono hb.size))
  have hn1 : n = ds.length := by rw [← hpl, ← hpd, datas_length]
  subst hn1
  obtain ⟨n, hn1⟩ : ∃ n, ds.length = n := ⟨_, rfl⟩
  rw [hn1] at hpl hps hdl hdl6 ⊢
  have Hn1 := Lib.hid hn1
  clear hn1
  have Hpl := Lib.hid hpl; have Hpd := Lib.hid hpd; have HPS0 := Lib.hid hps
  have h0 : lookGo nodes p (p.size - posS ds 0) (posS ds 0) = lookE nodes p := rfl
  have H0 := Lib.hid h0
  have HB1 := Lib.hid hB1; have Hbw := Lib.hid hbw
  clear hpl hpd hps hB hb hb1 h0 hB1 hbw
  go_wp2
  go_loopw [7, 8] (fun v7 v8 wr => ∃ i : Nat, i + 1 ≤ n ∧ v8 = .int .i64 i ∧ ∃ s : ByteArray, v7 = .string s ∧ s.data.toList = p.data.toList.take (posS ds i - 1) ∧ lookGo nodes p (p.size - posS ds i) (posS ds i) = lookE nodes p ∧ Blk wr w.heap.size 25 #[.slice NA nn nc, .slice FA fn fc] ∧ Below w.heap.size w wr ∧ Sl wr wr.heap.size 1 PA n (ps.flatMap strOf)) (fun _ v _ => n - (intOf v).toNat)
  case atStart => exact ⟨0, by omega, rfl, ByteArray.empty, rfl, by simp [posS], H0.out, HB1.out, Hbw.out, HPS0.out⟩
  case round =>
    clear H0 HB1 Hbw HPS0
    obtain ⟨i, hi, rfl, s, rfl, hs, hE, hB, hb, hPS⟩ := hrel
    have hs100 : s.size ≤ 100 := by
      have h1 := congrArg List.length hs
      rw [dlen, List.length_take, dlen] at h1
      omega
    have Hs := Lib.hid hs; have HE := Lib.hid hE; have HPS := Lib.hid hPS
    clear hs hE hPS
    have hbsz := hb.size
    by_cases hlt : i + 1 < n
    · have hki0 : (i : Int) < (n : Int) - 1 := by omega
      obtain ⟨pb, po, a, rfl, hpb, ha, hc⟩ := HPS.out.get strOf_len Hpl.out (show i < n by omega)
      have c0 := hc 0 _ rfl
      simp only [Nat.add_zero, Nat.mul_one] at c0
      have hdi : ds[i]? = some a.data.toList := by rw [← Hpd.out, datas, List.getElem?_map, ha]; rfl
      obtain ⟨hpos, hp2, hp3, hp4⟩ := look_part (l := nodes) HD.out HNO.out hdi (by rw [Hn1.out]; omega)
      have ha100 : a.size ≤ 100 := by
        have h1 := posS_succ hdi
        rw [dlen] at h1
        omega
      have Hdi := Lib.hid hdi
      clear hc ha hdi
      by_cases hi0 : i = 0
      · have hii : ¬ (0 : Int) < i := by omega
        have hsd : s.data.toList = p.data.toList.take (posS ds i) := by rw [Hs.out, hi0]; rfl
        have Hsd := Lib.hid hsd
        clear hi0 hsd
        have b0 := hB.cell 0
        have b1 := hB.cell 1
        have hx2 : s ++ a = p.extract 0 (posS ds i + a.data.toList.length) := ba_ext (by rw [app_data, Hsd.out, hp3, extract_data', List.drop_zero])
        have Hx2 := Lib.hid hx2
        clear hx2
        rcases find_at hA (p.extract 0 (posS ds i + a.data.toList.length)) with ⟨hno, hfi⟩ | ⟨k, x, hyes, hfi, hkx⟩
        · rw [hno] at hp2
          have hE0 : lookE nodes p = 21 := by rw [← HE.out]; exact hp2
          have HE0 := Lib.hid hE0; have Hfi := Lib.hid hfi
          clear hE0 hfi hp2 hno
          go_wp2_with (go_at_call 61; rw [Hx2.out]; refine (HFIND.out _ _ (HT.out.keep hb)).mono ?_; rintro e w3 ⟨rfl, hb3⟩; rw [Hfi.out])
          exact bodyPost_ret (results_tmp2 rfl _ _ _) rfl ⟨by rw [HE0.out]; rfl, hb.trans (hb3.mono hb.size)⟩
        · rw [hyes] at hp2
          have hk0 : ¬ (k : Int) < 0 := by omega
          have hkl : k < nn := by have := (List.getElem?_eq_some_iff.1 hkx).1; rw [Hn.out] at this; exact this
          have hki : (k : Int) < nn := by omega
          obtain ⟨xb, xo, x', hNA, hxb, hx', hc⟩ := (HS.out.below hb (Nat.le_refl _)).get Node.len Hn.out hkl
          obtain rfl : x = x' := by rw [hkx] at hx'; exact Option.some.inj hx'
          have c1 := hc 1 _ rfl
          subst hNA
          have Hfi := Lib.hid hfi
          have hkind := HK.out x (List.mem_of_getElem? hkx)
          clear hfi hc hx' hyes
          by_cases hxf : x.file = -1
          · rw [hxf] at c1
            have hgo2 : lookGo nodes p (p.size - posS ds (i + 1)) (posS ds (i + 1)) = lookE nodes p := by rw [← HE.out, hp2]; simp only [hxf]; rfl
            have HG2 := Lib.hid hgo2
            have HX2 := Lib.hid hxf
            clear hgo2 hp2 hxf hkind hkx
            go_wp2_with (go_at_call 61; rw [Hx2.out]; refine (HFIND.out _ _ (HT.out.keep hb)).mono ?_; rintro e w3 ⟨rfl, hb3⟩; rw [Hfi.out]; replace c1 := (cell_below hb3 (Nat.lt_of_lt_of_le hxb hb.size)).trans c1; have hB3 := hB.below hb3 hB.lt; have b0 := hB3.cell 0)
            go_roundw
            case rel =>
              refine ⟨i + 1, by omega, by go_num, _, rfl, ?_, HG2.out, hB3, hb.trans (hb3.mono hb.size), HPS.out.keep hb3.size hb3.block⟩
              rw [extract_data', List.drop_zero]
              congr 1
              rw [posS_succ Hdi.out]; have := dlen a; omega
            case measure => simp [intOf]; omega
          · have h22 : lookE nodes p = 22 := by
              rw [← HE.out, hp2]
              rcases hkind with h | h
              · exact absurd h hxf
              · simp only [if_pos h]
            have H22 := Lib.hid h22
            have hxf2 : (x.file != -1) = true := bne_iff_ne.2 hxf
            clear h22 hp2 hkind hkx
            go_wp2_with (go_at_call 61; rw [Hx2.out]; refine (HFIND.out _ _ (HT.out.keep hb)).mono ?_; rintro e w3 ⟨rfl, hb3⟩; rw [Hfi.out]; replace c1 := (cell_below hb3 (Nat.lt_of_lt_of_le hxb hb.size)).trans c1; have hB3 := hB.below hb3 hB.lt; have b0 := hB3.cell 0)
            exact bodyPost_ret (results_tmp2 rfl _ _ _) rfl ⟨by rw [H22.out]; rfl, hb.trans (hb3.mono hb.size)⟩
      · have hii : (0 : Int) < i := by omega
        have hsd : (s ++ ⟨#[47]⟩).data.toList = p.data.toList.take (posS ds i) := by
          obtain ⟨j, rfl⟩ : ∃ j, i = j + 1 := ⟨i - 1, by omega⟩
          obtain ⟨b, hb⟩ : ∃ b, ds[j]? = some b := ⟨_, List.getElem?_eq_getElem (by rw [Hn1.out]; omega)⟩
          obtain ⟨_, _, _, h4⟩ := look_part (l := nodes) HD.out HNO.out hb (by rw [Hn1.out]; omega)
          rw [app_data, Hs.out, ← h4, posS_succ hb]
          rfl
        have Hsd := Lib.hid hsd
        clear hi0 hsd
        have b0 := hB.cell 0
        have b1 := hB.cell 1
        have hx2 : (s ++ ⟨#[47]⟩ : ByteArray) ++ a = p.extract 0 (posS ds i + a.data.toList.length) := ba_ext (by rw [app_data, Hsd.out, hp3, extract_data', List.drop_zero])
        have Hx2 := Lib.hid hx2
        clear hx2
        rcases find_at hA (p.extract 0 (posS ds i + a.data.toList.length)) with ⟨hno, hfi⟩ | ⟨k, x, hyes, hfi, hkx⟩
        · rw [hno] at hp2
          have hE0 : lookE nodes p = 21 := by rw [← HE.out]; exact hp2
          have HE0 := Lib.hid hE0; have Hfi := Lib.hid hfi
          clear hE0 hfi hp2 hno
          go_wp2_with (go_at_call 61; rw [Hx2.out]; refine (HFIND.out _ _ (HT.out.keep hb)).mono ?_; rintro e w3 ⟨rfl, hb3⟩; rw [Hfi.out])
          exact bodyPost_ret (results_tmp2 rfl _ _ _) rfl ⟨by rw [HE0.out]; rfl, hb.trans (hb3.mono hb.size)⟩
        · rw [hyes] at hp2
          have hk0 : ¬ (k : Int) < 0 := by omega
          have hkl : k < nn := by have := (List.getElem?_eq_some_iff.1 hkx).1; rw [Hn.out] at this; exact this
          have hki : (k : Int) < nn := by omega
          obtain ⟨xb, xo, x', hNA, hxb, hx', hc⟩ := (HS.out.below hb (Nat.le_refl _)).get Node.len Hn.out hkl
          obtain rfl : x = x' := by rw [hkx] at hx'; exact Option.some.inj hx'
          have c1 := hc 1 _ rfl
          subst hNA
          have Hfi := Lib.hid hfi
          have hkind := HK.out x (List.mem_of_getElem? hkx)
          clear hfi hc hx' hyes
          by_cases hxf : x.file = -1
          · rw [hxf] at c1
            have hgo2 : lookGo nodes p (p.size - posS ds (i + 1)) (posS ds (i + 1)) = lookE nodes p := by rw [← HE.out, hp2]; simp only [hxf]; rfl
            have HG2 := Lib.hid hgo2
            have HX2 := Lib.hid hxf
            clear hgo2 hp2 hxf hkind hkx
            go_wp2_with (go_at_call 61; rw [Hx2.out]; refine (HFIND.out _ _ (HT.out.keep hb)).mono ?_; rintro e w3 ⟨rfl, hb3⟩; rw [Hfi.out]; replace c1 := (cell_below hb3 (Nat.lt_of_lt_of_le hxb hb.size)).trans c1; have hB3 := hB.below hb3 hB.lt; have b0 := hB3.cell 0)
            go_roundw
            case rel =>
              refine ⟨i + 1, by omega, by go_num, _, rfl, ?_, HG2.out, hB3, hb.trans (hb3.mono hb.size), HPS.out.keep hb3.size hb3.block⟩
              rw [extract_data', List.drop_zero]
              congr 1
              rw [posS_succ Hdi.out]; have := dlen a; omega
            case measure => simp [intOf]; omega
          · have h22 : lookE nodes p = 22 := by
              rw [← HE.out, hp2]
              rcases hkind with h | h
              · exact absurd h hxf
              · simp only [if_pos h]
            have H22 := Lib.hid h22
            have hxf2 : (x.file != -1) = true := bne_iff_ne.2 hxf
            clear h22 hp2 hkind hkx
            go_wp2_with (go_at_call 61; rw [Hx2.out]; refine (HFIND.out _ _ (HT.out.keep hb)).mono ?_; rintro e w3 ⟨rfl, hb3⟩; rw [Hfi.out]; replace c1 := (cell_below hb3 (Nat.lt_of_lt_of_le hxb hb.size)).trans c1; have hB3 := hB.below hb3 hB.lt; have b0 := hB3.cell 0)
            exact bodyPost_ret (results_tmp2 rfl _ _ _) rfl ⟨by rw [H22.out]; rfl, hb.trans (hb3.mono hb.size)⟩
    · obtain ⟨a, ha⟩ : ∃ a, ds[i]? = some a := ⟨_, List.getElem?_eq_getElem (by rw [Hn1.out]; omega)⟩
      have hz := look_end (l := nodes) HD.out HNO.out ha (by rw [Hn1.out]; omega)
      have hE0 : lookE nodes p = 0 := by rw [← HE.out]; exact hz
      have HE0 := Lib.hid hE0
      have b0 := hB.cell 0
      have b1 := hB.cell 1
      have hki0 : ¬ (i : Int) < (n : Int) - 1 := by omega
      clear ha hz hE0
      go_wp2_with (go_at_call 61; refine (HFIND.out _ _ (HT.out.keep hb)).mono ?_; rintro e w3 ⟨rfl, hb3⟩)
      exact bodyPost_ret (results_tmp2 rfl _ _ _) rfl ⟨by rw [HE0.out]; rfl, hb.trans (hb3.mono hb.size)⟩
theorem look_isSome {l : List Node} (hA : Apart l) {p : ByteArray} (h : lookE l p = 0) : (lookT l p = true ↔ 0 ≤ findI l p) := by
  unfold lookT
  rw [h]
  rcases find_at hA p with ⟨h1, h2⟩ | ⟨k, x, h1, h2, h3⟩
  · rw [h1, h2]; simp
  · rw [h1, h2]; simp
section
variable (t : TV) (p : ByteArray) (w : World) (h : TreeAt w t) (hA : Apart t.nodes) (hK : ∀ x ∈ t.nodes, x.file = -1 ∨ 0 ≤ x.file) (hp : p.size ≤ 9223372036854775807) (hv : validL p.data.toList = true)
include h hA hK hp hv
theorem rvacant_any : Calls Tryz.prog 44 #[t.val, .string p] w (NumRes (absE t.nodes p) w) := by
  have hl := fun W (H : TreeAt W t) => rlook_any t p W H hA hK hp hv
  have hs := look_isSome hA (p := p)
  have HT := Lib.hid h
  obtain ⟨nodes, files, NA, nn, nc, FA, fn, fc⟩ := t
  simp only at hA hK hs hl ⊢
  unfold TV.val at hl ⊢
  have HL := Lib.hid hl
  clear hl h hK hA
  have hB := Blk.new w 25 #[.slice NA nn nc, .slice FA fn fc]
  have hb := (Below.refl w.heap.size w).alloc (Nat.le_refl _) (.cells #[.slice NA nn nc, .slice FA fn fc] 25)
  have b0 := hB.cell 0; have b1 := hB.cell 1
  obtain ⟨E, hE⟩ : ∃ E, lookE nodes p = E := ⟨_, rfl⟩
  have hab : absE nodes p = if E = 0 then (if 0 ≤ findI nodes p then 23 else 0) else E := by
    unfold absE
    rw [hE]
    by_cases h0 : E = 0
    · rw [if_pos h0]
      by_cases h1 : 0 ≤ findI nodes p
      · rw [if_pos h1, if_pos ⟨h0, (hs (by rw [hE]; exact h0)).2 h1⟩]
      · rw [if_neg h1, if_neg (fun h => h1 ((hs (by rw [hE]; exact h0)).1 h.2)), h0]
    · rw [if_neg h0, if_neg (fun h => h0 h.1)]
  rw [hab]
  unfold LookR at HL
  rw [hE] at HL
  clear hs hE hab
  obtain ⟨k, hk⟩ : ∃ k, findI nodes p = k := ⟨_, rfl⟩
  rw [hk] at HL ⊢
  clear hk
  by_cases h0 : E = 0
  · subst h0
    rw [if_pos rfl] at HL ⊢
    by_cases h1 : 0 ≤ k
    · rw [if_pos h1]
      go_enter Tryz.func44, Tryz.ntmps44
      go_wp2_with (go_at_call 45; refine (HL.out _ (HT.out.keep hb)).mono ?_; rintro e w1 ⟨rfl, hb1⟩)
      go_ret
      exact ⟨rfl, hb.trans (hb1.mono hb.size)⟩
    · rw [if_neg h1]
      go_enter Tryz.func44, Tryz.ntmps44
      go_wp2_with (go_at_call 45; refine (HL.out _ (HT.out.keep hb)).mono ?_; rintro e w1 ⟨rfl, hb1⟩)
      go_ret
      exact ⟨rfl, hb.trans (hb1.mono hb.size)⟩
  · rw [if_neg h0] at HL ⊢
    have hne := ne_b h0
    have n1 := hne.1; have n2 := hne.2
    clear hne
    go_enter Tryz.func44, Tryz.ntmps44
    go_wp2_with (go_at_call 45; refine (HL.out _ (HT.out.keep hb)).mono ?_; rintro e w1 ⟨rfl, hb1⟩)
    go_ret
    exact ⟨rfl, hb.trans (hb1.mono hb.size)⟩
def FileR (l : List Node) (p : ByteArray) (w : World) (e : Ending) (w' : World) : Prop := e = .returned (.tuple #[.int .i64 (if filE l p = 0 then findI l p else -1), .int .i64 (filE l p)]) ∧ Below w.heap.size w w'
theorem rfile_any : Calls Tryz.prog 43 #[t.val, .string p] w (FileR t.nodes p w) := by
  have hl := fun W (H : TreeAt W t) => rlook_any t p W H hA hK hp hv
  have hs := look_isSome hA (p := p)
  have HT := Lib.hid h
  have hns := h.ns
  have hnl := h.nl
  have hfa := find_at hA p
  obtain ⟨nodes, files, NA, nn, nc, FA, fn, fc⟩ := t
  simp only at hA hK hs hl hns hnl hfa ⊢
  unfold TV.val at hl ⊢
  have HL := Lib.hid hl; have HS := Lib.hid hns; have Hn := Lib.hid hnl
  clear hl h hA hns hnl
  have hB := Blk.new w 25 #[.slice NA nn nc, .slice FA fn fc]
  have hb := (Below.refl w.heap.size w).alloc (Nat.le_refl _) (.cells #[.slice NA nn nc, .slice FA fn fc] 25)
  have b0 := hB.cell 0; have b1 := hB.cell 1
  unfold FileR
  unfold LookR at HL
  by_cases h0 : lookE nodes p = 0
  · rcases hfa with ⟨hno, hfi⟩ | ⟨k, x, hyes, hfi, hkx⟩
    · have hT : lookT nodes p = false := by rw [lookT, hno]; simp
      have hf : filE nodes p = 21 := by
        have hp1 : preE nodes p = 21 := by rw [preE, if_pos ⟨h0, hT⟩]
        rw [filE, if_neg (by rw [hp1]; simp), hp1]
      rw [hf]
      rw [h0, if_pos rfl, hfi] at HL
      clear h0 hno hfi hT hf hs
      go_enter Tryz.func43, Tryz.ntmps43
      go_wp2_with (go_at_call 45; refine (HL.out _ (HT.out.keep hb)).mono ?_; rintro e w1 ⟨rfl, hb1⟩)
      exact bodyPost_ret (results_tmp2 rfl _ _ _) rfl ⟨rfl, hb.trans (hb1.mono hb.size)⟩
    · have hT : lookT nodes p = true := by rw [lookT, hyes, h0]; simp
      have hp1 : preE nodes p = 0 := by rw [preE, if_neg (by rw [hT]; simp), h0]
      have hF : lookF nodes p = x.file := by rw [lookF, if_pos h0, hyes]; rfl
      have hkl : k < nn := by have := (List.getElem?_eq_some_iff.1 hkx).1; rw [Hn.out] at this; exact this
      have hki : (k : Int) < nn := by omega
      obtain ⟨xb, xo, x', rfl, hxb, hx', hc⟩ := HS.out.get Node.len Hn.out hkl
      obtain rfl : x = x' := by rw [hkx] at hx'; exact Option.some.inj hx'
      have c1 := hc 1 _ rfl
      have hkind := hK x (List.mem_of_getElem? hkx)
      rw [h0, if_pos rfl, hfi] at HL
      by_cases hxf : x.file = -1
      · have hf : filE nodes p = 24 := by rw [filE, if_pos ⟨hp1, by rw [hF, hxf]; decide⟩]
        rw [hf]
        rw [hxf] at c1
        clear h0 hyes hfi hT hf hs hp1 hF hc hx' hkind hxf hkx hK
        go_enter Tryz.func43, Tryz.ntmps43
        go_wp2_with (go_at_call 45; refine (HL.out _ (HT.out.keep hb)).mono ?_; rintro e w1 ⟨rfl, hb1⟩; have hbw := hb.trans (hb1.mono hb.size); replace c1 := (cell_below hbw hxb).trans c1; have hB1 := hB.below hb1 hB.lt; have b0 := hB1.cell 0)
        exact bodyPost_ret (results_tmp2 rfl _ _ _) rfl ⟨rfl, hb.trans (hb1.mono hb.size)⟩
      · have hf : filE nodes p = 0 := by rw [filE, if_neg (fun h => by rw [hF] at h; rcases hkind with h2 | h2; exact hxf h2; omega), hp1]
        rw [hf, if_pos rfl, hfi]
        have hxe : (x.file == -1) = false := beq_eq_false_iff_ne.2 hxf
        clear h0 hyes hfi hT hf hs hp1 hF hc hx' hkind hxf hkx hK
        go_enter Tryz.func43, Tryz.ntmps43
        go_wp2_with (go_at_call 45; refine (HL.out _ (HT.out.keep hb)).mono ?_; rintro e w1 ⟨rfl, hb1⟩; have hbw := hb.trans (hb1.mono hb.size); replace c1 := (cell_below hbw hxb).trans c1; have hB1 := hB.below hb1 hB.lt; have b0 := hB1.cell 0)
        exact bodyPost_ret (results_tmp2 rfl _ _ _) rfl ⟨rfl, hb.trans (hb1.mono hb.size)⟩
  · have hp1 : preE nodes p = lookE nodes p := by rw [preE, if_neg (fun h => h0 h.1)]
    have hf : filE nodes p = lookE nodes p := by rw [filE, if_neg (fun h => h0 (hp1 ▸ h.1)), hp1]
    rw [hf, if_neg h0]
    rw [if_neg h0] at HL
    obtain ⟨E, hE⟩ : ∃ E, lookE nodes p = E := ⟨_, rfl⟩
    rw [hE] at h0 HL ⊢
    have hne := ne_b h0
    have n1 := hne.1; have n2 := hne.2
    clear hne hs hp1 hf hE hfa
    go_enter Tryz.func43, Tryz.ntmps43
    go_wp2_with (go_at_call 45; refine (HL.out _ (HT.out.keep hb)).mono ?_; rintro e w1 ⟨rfl, hb1⟩)
    exact bodyPost_ret (results_tmp2 rfl _ _ _) rfl ⟨rfl, hb.trans (hb1.mono hb.size)⟩
end
end Go.Proofs.YthmeffpickejkaaGreat

namespace Go.Proofs.YthmeffpickejkaaGreat
open Go.RowKit

/-- What first says, of whatever instruction. -/
def rfirstE (c : Cmd) (ds : List ByteArray) : Int := if isOp c.op = false then 34 else if c.op = 9 then 0 else firstE (toB c.op) (modeB c.op) c ds
set_option maxRecDepth 100000 in
set_option maxHeartbeats 8000000 in
theorem rfirst_any (c : Cmd) (SA : Option Addr) (sn sc : Nat) (ss : List SC) (ds : List ByteArray) (w : World) (hS : StockAt w SA sn ss ds) :
    Calls Tryz.prog 41 #[.agg c.cells, .slice SA sn sc] w (NumRes (rfirstE c ds) w) := by
  obtain ⟨E, hE⟩ : ∃ E, rfirstE c ds = E := ⟨_, rfl⟩
  rw [hE]
  unfold rfirstE at hE
  have hdl := hS.dlen
  have hnm := hS.nm
  unfold Cmd.cells
  have hI := Blk.new w 32 #[.int .i64 c.op, .string c.path, .string c.dst, .int .i64 c.mode, .int .i64 c.ref]
  have hb : Below w.heap.size w (w.alloc (.cells #[.int .i64 c.op, .string c.path, .string c.dst, .int .i64 c.mode, .int .i64 c.ref] 32)) := (Below.refl _ _).alloc (Nat.le_refl _) _
  obtain ⟨W, hW⟩ : ∃ W, W = w.alloc (.cells #[.int .i64 c.op, .string c.path, .string c.dst, .int .i64 c.mode, .int .i64 c.ref] 32) := ⟨_, rfl⟩
  have HE := Lib.hid hE; have HS := Lib.hid hS; have Hdl := Lib.hid hdl
  clear hE hS hdl
  go_enter Tryz.func41, Tryz.ntmps41
  go_upto_region 1 with (fail)
  rw [← hW] at hI hb ⊢
  have hWs : w.heap.size < W.heap.size := by rw [hW]; simp
  clear hW
  have i0 := hI.cell 0
  have i1 := hI.cell 1
  have i2 := hI.cell 2
  have i3 := hI.cell 3
  have i4 := hI.cell 4
  -- the instruction's number
  by_cases o1 : c.op < 1
  · have hfin : E = 34 := by rw [← HE.out, if_pos (by simp [isOp]; omega)]
    have HF := Lib.hid hfin; clear hfin
    go_wp2
    go_ret
    exact ⟨by rw [HF.out]; rfl, hb⟩
  by_cases o2 : 9 < c.op
  · have hfin : E = 34 := by rw [← HE.out, if_pos (by simp [isOp]; omega)]
    have HF := Lib.hid hfin; clear hfin
    go_wp2
    go_ret
    exact ⟨by rw [HF.out]; rfl, hb⟩
  have hE1 := HE.out
  rw [if_neg (show ¬ isOp c.op = false by simp [isOp]; omega)] at hE1
  by_cases o3 : c.op = 9
  · rw [if_pos o3] at hE1
    have HF := Lib.hid hE1.symm; clear hE1
    have O3 := Lib.hid o3
    have o4 : (c.op == 9) = true := by simp [o3]
    clear o3
    go_wp2
    go_ret
    exact ⟨by rw [HF.out]; rfl, hb⟩
  rw [if_neg o3] at hE1
  have HE1 := Lib.hid hE1; clear hE1
  have o4 := (ne_b o3).1
  obtain ⟨T, hT⟩ : ∃ T, toB c.op = T := ⟨_, rfl⟩
  obtain ⟨Md, hMd⟩ : ∃ T, modeB c.op = T := ⟨_, rfl⟩
  rw [hT, hMd] at HE1
  have HT := Lib.hid hT; have HMd := Lib.hid hMd
  clear hT hMd o3
  unfold firstE at HE1
  go_upto_region 7 with (first | (go_at_call 63; refine (hasMode7 _ _).mono ?_; rintro e w1 ⟨rfl, hw⟩; rw [hw, HMd.out]; clear hw) | (go_at_call 42; refine (hasTo7 _ _).mono ?_; rintro e w1 ⟨rfl, hw⟩; rw [hw, HT.out]; clear hw))
  clear o4
  by_cases m1 : Md = true ∧ (c.mode < 0 ∨ 511 < c.mode)
  · have hfin : E = 28 := by rw [← HE1.out, if_pos m1]
    have HF := Lib.hid hfin; clear hfin
    obtain ⟨rfl, m1⟩ := m1
    by_cases m2 : c.mode < 0
    · go_wp2
      go_ret
      exact ⟨by rw [HF.out]; rfl, hb⟩
    · have m3 : 511 < c.mode := by omega
      go_wp2
      go_ret
      exact ⟨by rw [HF.out]; rfl, hb⟩
  have hE2 := HE1.out
  rw [if_neg m1] at hE2
  have HE2 := Lib.hid hE2; clear hE2
  cases Md with
  | true =>
    have m4 : ¬ c.mode < 0 := fun h => m1 ⟨rfl, .inl h⟩
    have m5 : ¬ 511 < c.mode := fun h => m1 ⟨rfl, .inr h⟩
    clear m1
    by_cases p1 : c.path.data.toList = []
    · have hfin : E = 26 := by rw [← HE2.out, if_pos (.inl p1)]
      have HF := Lib.hid hfin; clear hfin
      obtain ⟨q1, q2⟩ := empty_b p1
      have P1 := Lib.hid p1; clear p1
      go_wp2
      go_ret
      exact ⟨by rw [HF.out]; rfl, hb⟩
    obtain ⟨q1, q2, q3⟩ := nonempty_b p1
    by_cases d1 : T = true ∧ c.dst.data.toList = []
    · have hfin : E = 26 := by rw [← HE2.out, if_pos (.inr d1)]
      have HF := Lib.hid hfin; clear hfin
      obtain ⟨rfl, d1⟩ := d1
      obtain ⟨r1, r2⟩ := empty_b d1
      have P1 := Lib.hid p1; clear p1 d1
      go_wp2
      go_ret
      exact ⟨by rw [HF.out]; rfl, hb⟩
    have hE3 := HE2.out
    rw [if_neg (fun h => h.elim p1 d1)] at hE3
    have HE3 := Lib.hid hE3; clear hE3
    have hdn : T = true → (¬ c.dst.toList = [] ∧ (!c.dst.toList.isEmpty) = true ∧ (c.dst.toList == []) = false) := fun h => nonempty_b fun h2 => d1 ⟨h, h2⟩
    clear p1 d1
    obtain ⟨vp, hvp⟩ : ∃ b, validL c.path.data.toList = b := ⟨_, rfl⟩
    obtain ⟨vd, hvd⟩ : ∃ b, validL c.dst.data.toList = b := ⟨_, rfl⟩
    rw [hvp, hvd] at HE3
    have Hvp := Lib.hid hvp; have Hvd := Lib.hid hvd
    clear hvp hvd
    cases T with
    | true =>
      obtain ⟨r1, r2, r3⟩ := hdn rfl
      go_upto_region 11 with (fail)
      go_upto_region 13 with (first | (go_at_call 60; (first | ((with_reducible refine (rvalid_any c.path _ c.hp).mono ?_); rintro e w1 ⟨rfl, hb1⟩; rw [Hvp.out]; have hI1 := hI.below hb1 hWs; have j2 := hI1.cell 2; have hbA := hb.trans (hb1.mono hb.size)) | ((with_reducible refine (rvalid_any c.dst _ c.hd).mono ?_); rintro e w2 ⟨rfl, hb2⟩; rw [Hvd.out]))))
      have hb2w := hbA.trans (hb2.mono hbA.size)
      have hI2 := hI1.below hb2 hI1.lt
      clear i0 i1 i2 i3 i4 j2
      have i0 := hI2.cell 0
      have i4 := hI2.cell 4
      cases vp with
      | false =>
        have HF := Lib.hid (show E = 20 by rw [← HE3.out, if_pos (.inl rfl)])
        go_wp2
        go_ret
        exact ⟨by rw [HF.out]; rfl, hb2w⟩
      | true =>
        cases vd with
        | false =>
          have HF := Lib.hid (show E = 20 by rw [← HE3.out, if_pos (.inr (by simp))])
          go_wp2
          go_ret
          exact ⟨by rw [HF.out]; rfl, hb2w⟩
        | true =>
          have hE4 := HE3.out
          rw [if_neg (by simp)] at hE4
          by_cases o6 : c.op = 6
          · rw [if_pos o6] at hE4
            have o7 : (c.op == 6) = true := by simp [o6]
            have O6 := Lib.hid o6
            have hE4' := Lib.hid hE4
            clear o6 hE4
            by_cases f1 : c.ref < 0
            · have HF := Lib.hid (show E = 32 by rw [← hE4'.out, if_pos (.inl f1)])
              go_wp2
              go_ret
              exact ⟨by rw [HF.out]; rfl, hb2w⟩
            · by_cases f2 : (sn : Int) ≤ c.ref
              · have HF := Lib.hid (show E = 32 by rw [← hE4'.out, if_pos (.inr (by rw [Hdl.out]; exact f2))])
                go_wp2
                go_ret
                exact ⟨by rw [HF.out]; rfl, hb2w⟩
              · obtain ⟨k, hk⟩ := Int.eq_ofNat_of_zero_le (show 0 ≤ c.ref by omega)
                have hkn : k < sn := by omega
                have hki : (k : Int) < sn := by omega
                obtain ⟨xb, xo, x, rfl, hxb, hx, hc⟩ := (HS.out.sl.below hb2w (Nat.le_refl _)).get SC.len HS.out.len hkn
                have c0 := hc 0 _ rfl
                simp only [Nat.add_zero, Nat.mul_one] at c0
                obtain ⟨d, hd⟩ : ∃ d, ds[k]? = some d := ⟨_, List.getElem?_eq_getElem (by rw [Hdl.out]; exact hkn)⟩
                have hdn2 := (HS.out.dat k x d hx hd).1
                have hE5 := hE4'.out
                rw [if_neg (by rw [Hdl.out]; omega), hk, Int.toNat_natCast, hd, Option.map_some, Option.getD_some, hdn2] at hE5
                have HE5 := Lib.hid hE5
                rw [hk] at i4
                clear hE5 hdn2 hd hc hx hk f1 f2
                by_cases f3 : 8192 < x.n
                · have HF := Lib.hid (show E = 2 by rw [← HE5.out, if_pos f3])
                  have f4 : (8192 : Int) < x.n := by omega
                  go_wp2
                  go_ret
                  exact ⟨by rw [HF.out]; rfl, hb2w⟩
                · have HF := Lib.hid (show E = 0 by rw [← HE5.out, if_neg f3])
                  have f4 : ¬ (8192 : Int) < x.n := by omega
                  go_wp2
                  go_ret
                  exact ⟨by rw [HF.out]; rfl, hb2w⟩
          · rw [if_neg o6] at hE4
            have HF := Lib.hid hE4.symm
            have o7 := (ne_b o6).1
            clear o6 hE4
            go_wp2
            go_ret
            exact ⟨by rw [HF.out]; rfl, hb2w⟩
    | false =>
      clear hdn
      go_upto_region 11 with (fail)
      go_upto_region 13 with (first | (go_at_call 60; (first | ((with_reducible refine (rvalid_any c.path _ c.hp).mono ?_); rintro e w1 ⟨rfl, hb1⟩; rw [Hvp.out]; have hI1 := hI.below hb1 hWs; have j2 := hI1.cell 2; have hbA := hb.trans (hb1.mono hb.size)) | ((with_reducible refine (rvalid_any c.dst _ c.hd).mono ?_); rintro e w2 ⟨rfl, hb2⟩; rw [Hvd.out]))))
      have hb2w := hbA.trans (hb2.mono hbA.size)
      have hI2 := hI1.below hb2 hI1.lt
      clear i0 i1 i2 i3 i4 j2
      have i0 := hI2.cell 0
      have i4 := hI2.cell 4
      cases vp with
      | false =>
        have HF := Lib.hid (show E = 20 by rw [← HE3.out, if_pos (.inl rfl)])
        go_wp2
        go_ret
        exact ⟨by rw [HF.out]; rfl, hb2w⟩
      | true =>
        have hE4 := HE3.out
        rw [if_neg (by simp)] at hE4
        by_cases o6 : c.op = 6
        · rw [if_pos o6] at hE4
          have o7 : (c.op == 6) = true := by simp [o6]
          have O6 := Lib.hid o6
          have hE4' := Lib.hid hE4
          clear o6 hE4
          by_cases f1 : c.ref < 0
          · have HF := Lib.hid (show E = 32 by rw [← hE4'.out, if_pos (.inl f1)])
            go_wp2
            go_ret
            exact ⟨by rw [HF.out]; rfl, hb2w⟩
          · by_cases f2 : (sn : Int) ≤ c.ref
            · have HF := Lib.hid (show E = 32 by rw [← hE4'.out, if_pos (.inr (by rw [Hdl.out]; exact f2))])
              go_wp2
              go_ret
              exact ⟨by rw [HF.out]; rfl, hb2w⟩
            · obtain ⟨k, hk⟩ := Int.eq_ofNat_of_zero_le (show 0 ≤ c.ref by omega)
              have hkn : k < sn := by omega
              have hki : (k : Int) < sn := by omega
              obtain ⟨xb, xo, x, rfl, hxb, hx, hc⟩ := (HS.out.sl.below hb2w (Nat.le_refl _)).get SC.len HS.out.len hkn
              have c0 := hc 0 _ rfl
              simp only [Nat.add_zero, Nat.mul_one] at c0
              obtain ⟨d, hd⟩ : ∃ d, ds[k]? = some d := ⟨_, List.getElem?_eq_getElem (by rw [Hdl.out]; exact hkn)⟩
              have hdn2 := (HS.out.dat k x d hx hd).1
              have hE5 := hE4'.out
              rw [if_neg (by rw [Hdl.out]; omega), hk, Int.toNat_natCast, hd, Option.map_some, Option.getD_some, hdn2] at hE5
              have HE5 := Lib.hid hE5
              rw [hk] at i4
              clear hE5 hdn2 hd hc hx hk f1 f2
              by_cases f3 : 8192 < x.n
              · have HF := Lib.hid (show E = 2 by rw [← HE5.out, if_pos f3])
                have f4 : (8192 : Int) < x.n := by omega
                go_wp2
                go_ret
                exact ⟨by rw [HF.out]; rfl, hb2w⟩
              · have HF := Lib.hid (show E = 0 by rw [← HE5.out, if_neg f3])
                have f4 : ¬ (8192 : Int) < x.n := by omega
                go_wp2
                go_ret
                exact ⟨by rw [HF.out]; rfl, hb2w⟩
        · rw [if_neg o6] at hE4
          have HF := Lib.hid hE4.symm
          have o7 := (ne_b o6).1
          clear o6 hE4
          go_wp2
          go_ret
          exact ⟨by rw [HF.out]; rfl, hb2w⟩
  | false =>
    clear m1
    by_cases p1 : c.path.data.toList = []
    · have hfin : E = 26 := by rw [← HE2.out, if_pos (.inl p1)]
      have HF := Lib.hid hfin; clear hfin
      obtain ⟨q1, q2⟩ := empty_b p1
      have P1 := Lib.hid p1; clear p1
      go_wp2
      go_ret
      exact ⟨by rw [HF.out]; rfl, hb⟩
    obtain ⟨q1, q2, q3⟩ := nonempty_b p1
    by_cases d1 : T = true ∧ c.dst.data.toList = []
    · have hfin : E = 26 := by rw [← HE2.out, if_pos (.inr d1)]
      have HF := Lib.hid hfin; clear hfin
      obtain ⟨rfl, d1⟩ := d1
      obtain ⟨r1, r2⟩ := empty_b d1
      have P1 := Lib.hid p1; clear p1 d1
      go_wp2
      go_ret
      exact ⟨by rw [HF.out]; rfl, hb⟩
    have hE3 := HE2.out
    rw [if_neg (fun h => h.elim p1 d1)] at hE3
    have HE3 := Lib.hid hE3; clear hE3
    have hdn : T = true → (¬ c.dst.toList = [] ∧ (!c.dst.toList.isEmpty) = true ∧ (c.dst.toList == []) = false) := fun h => nonempty_b fun h2 => d1 ⟨h, h2⟩
    clear p1 d1
    obtain ⟨vp, hvp⟩ : ∃ b, validL c.path.data.toList = b := ⟨_, rfl⟩
    obtain ⟨vd, hvd⟩ : ∃ b, validL c.dst.data.toList = b := ⟨_, rfl⟩
    rw [hvp, hvd] at HE3
    have Hvp := Lib.hid hvp; have Hvd := Lib.hid hvd
    clear hvp hvd
    cases T with
    | true =>
      obtain ⟨r1, r2, r3⟩ := hdn rfl
      go_upto_region 11 with (fail)
      go_upto_region 13 with (first | (go_at_call 60; (first | ((with_reducible refine (rvalid_any c.path _ c.hp).mono ?_); rintro e w1 ⟨rfl, hb1⟩; rw [Hvp.out]; have hI1 := hI.below hb1 hWs; have j2 := hI1.cell 2; have hbA := hb.trans (hb1.mono hb.size)) | ((with_reducible refine (rvalid_any c.dst _ c.hd).mono ?_); rintro e w2 ⟨rfl, hb2⟩; rw [Hvd.out]))))
      have hb2w := hbA.trans (hb2.mono hbA.size)
      have hI2 := hI1.below hb2 hI1.lt
      clear i0 i1 i2 i3 i4 j2
      have i0 := hI2.cell 0
      have i4 := hI2.cell 4
      cases vp with
      | false =>
        have HF := Lib.hid (show E = 20 by rw [← HE3.out, if_pos (.inl rfl)])
        go_wp2
        go_ret
        exact ⟨by rw [HF.out]; rfl, hb2w⟩
      | true =>
        cases vd with
        | false =>
          have HF := Lib.hid (show E = 20 by rw [← HE3.out, if_pos (.inr (by simp))])
          go_wp2
          go_ret
          exact ⟨by rw [HF.out]; rfl, hb2w⟩
        | true =>
          have hE4 := HE3.out
          rw [if_neg (by simp)] at hE4
          by_cases o6 : c.op = 6
          · rw [if_pos o6] at hE4
            have o7 : (c.op == 6) = true := by simp [o6]
            have O6 := Lib.hid o6
            have hE4' := Lib.hid hE4
            clear o6 hE4
            by_cases f1 : c.ref < 0
            · have HF := Lib.hid (show E = 32 by rw [← hE4'.out, if_pos (.inl f1)])
              go_wp2
              go_ret
              exact ⟨by rw [HF.out]; rfl, hb2w⟩
            · by_cases f2 : (sn : Int) ≤ c.ref
              · have HF := Lib.hid (show E = 32 by rw [← hE4'.out, if_pos (.inr (by rw [Hdl.out]; exact f2))])
                go_wp2
                go_ret
                exact ⟨by rw [HF.out]; rfl, hb2w⟩
              · obtain ⟨k, hk⟩ := Int.eq_ofNat_of_zero_le (show 0 ≤ c.ref by omega)
                have hkn : k < sn := by omega
                have hki : (k : Int) < sn := by omega
                obtain ⟨xb, xo, x, rfl, hxb, hx, hc⟩ := (HS.out.sl.below hb2w (Nat.le_refl _)).get SC.len HS.out.len hkn
                have c0 := hc 0 _ rfl
                simp only [Nat.add_zero, Nat.mul_one] at c0
                obtain ⟨d, hd⟩ : ∃ d, ds[k]? = some d := ⟨_, List.getElem?_eq_getElem (by rw [Hdl.out]; exact hkn)⟩
                have hdn2 := (HS.out.dat k x d hx hd).1
                have hE5 := hE4'.out
                rw [if_neg (by rw [Hdl.out]; omega), hk, Int.toNat_natCast, hd, Option.map_some, Option.getD_some, hdn2] at hE5
                have HE5 := Lib.hid hE5
                rw [hk] at i4
                clear hE5 hdn2 hd hc hx hk f1 f2
                by_cases f3 : 8192 < x.n
                · have HF := Lib.hid (show E = 2 by rw [← HE5.out, if_pos f3])
                  have f4 : (8192 : Int) < x.n := by omega
                  go_wp2
                  go_ret
                  exact ⟨by rw [HF.out]; rfl, hb2w⟩
                · have HF := Lib.hid (show E = 0 by rw [← HE5.out, if_neg f3])
                  have f4 : ¬ (8192 : Int) < x.n := by omega
                  go_wp2
                  go_ret
                  exact ⟨by rw [HF.out]; rfl, hb2w⟩
          · rw [if_neg o6] at hE4
            have HF := Lib.hid hE4.symm
            have o7 := (ne_b o6).1
            clear o6 hE4
            go_wp2
            go_ret
            exact ⟨by rw [HF.out]; rfl, hb2w⟩
    | false =>
      clear hdn
      go_upto_region 11 with (fail)
      go_upto_region 13 with (first | (go_at_call 60; (first | ((with_reducible refine (rvalid_any c.path _ c.hp).mono ?_); rintro e w1 ⟨rfl, hb1⟩; rw [Hvp.out]; have hI1 := hI.below hb1 hWs; have j2 := hI1.cell 2; have hbA := hb.trans (hb1.mono hb.size)) | ((with_reducible refine (rvalid_any c.dst _ c.hd).mono ?_); rintro e w2 ⟨rfl, hb2⟩; rw [Hvd.out]))))
      have hb2w := hbA.trans (hb2.mono hbA.size)
      have hI2 := hI1.below hb2 hI1.lt
      clear i0 i1 i2 i3 i4 j2
      have i0 := hI2.cell 0
      have i4 := hI2.cell 4
      cases vp with
      | false =>
        have HF := Lib.hid (show E = 20 by rw [← HE3.out, if_pos (.inl rfl)])
        go_wp2
        go_ret
        exact ⟨by rw [HF.out]; rfl, hb2w⟩
      | true =>
        have hE4 := HE3.out
        rw [if_neg (by simp)] at hE4
        by_cases o6 : c.op = 6
        · rw [if_pos o6] at hE4
          have o7 : (c.op == 6) = true := by simp [o6]
          have O6 := Lib.hid o6
          have hE4' := Lib.hid hE4
          clear o6 hE4
          by_cases f1 : c.ref < 0
          · have HF := Lib.hid (show E = 32 by rw [← hE4'.out, if_pos (.inl f1)])
            go_wp2
            go_ret
            exact ⟨by rw [HF.out]; rfl, hb2w⟩
          · by_cases f2 : (sn : Int) ≤ c.ref
            · have HF := Lib.hid (show E = 32 by rw [← hE4'.out, if_pos (.inr (by rw [Hdl.out]; exact f2))])
              go_wp2
              go_ret
              exact ⟨by rw [HF.out]; rfl, hb2w⟩
            · obtain ⟨k, hk⟩ := Int.eq_ofNat_of_zero_le (show 0 ≤ c.ref by omega)
              have hkn : k < sn := by omega
              have hki : (k : Int) < sn := by omega
              obtain ⟨xb, xo, x, rfl, hxb, hx, hc⟩ := (HS.out.sl.below hb2w (Nat.le_refl _)).get SC.len HS.out.len hkn
              have c0 := hc 0 _ rfl
              simp only [Nat.add_zero, Nat.mul_one] at c0
              obtain ⟨d, hd⟩ : ∃ d, ds[k]? = some d := ⟨_, List.getElem?_eq_getElem (by rw [Hdl.out]; exact hkn)⟩
              have hdn2 := (HS.out.dat k x d hx hd).1
              have hE5 := hE4'.out
              rw [if_neg (by rw [Hdl.out]; omega), hk, Int.toNat_natCast, hd, Option.map_some, Option.getD_some, hdn2] at hE5
              have HE5 := Lib.hid hE5
              rw [hk] at i4
              clear hE5 hdn2 hd hc hx hk f1 f2
              by_cases f3 : 8192 < x.n
              · have HF := Lib.hid (show E = 2 by rw [← HE5.out, if_pos f3])
                have f4 : (8192 : Int) < x.n := by omega
                go_wp2
                go_ret
                exact ⟨by rw [HF.out]; rfl, hb2w⟩
              · have HF := Lib.hid (show E = 0 by rw [← HE5.out, if_neg f3])
                have f4 : ¬ (8192 : Int) < x.n := by omega
                go_wp2
                go_ret
                exact ⟨by rw [HF.out]; rfl, hb2w⟩
        · rw [if_neg o6] at hE4
          have HF := Lib.hid hE4.symm
          have o7 := (ne_b o6).1
          clear o6 hE4
          go_wp2
          go_ret
          exact ⟨by rw [HF.out]; rfl, hb2w⟩
end Go.Proofs.YthmeffpickejkaaGreat
