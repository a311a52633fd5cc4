/- shuntref5: name, split, Valid, Names, Parent. -/
import Derived.Test.YtgeiegjpnnbloaaDoorPath
import Derived.Test.YtgeiegjpnnbloaaDoorKit
namespace Go.Proofs.YtgeiegjpnnbloaaDoor
open Go.RowKit

theorem dlen (s : ByteArray) : s.data.toList.length = s.size := by simp
/-- Is it a name? -/
def nameL (l : List UInt8) : Bool := !l.isEmpty && (decide (l.length ≤ 14) && (!dots l && l.all okc))
/-- The parts between slashes, behind what has been read of the first. -/
def cutL : List UInt8 → List UInt8 → List (List UInt8)
  | [], cur => [cur]
  | c :: t, cur => if c.toNat = 47 then cur :: cutL t [] else cutL t (cur ++ [c])
theorem cutL_len : ∀ (l cur : List UInt8), 1 ≤ (cutL l cur).length ∧ (cutL l cur).length ≤ l.length + 1
  | [], _ => by simp [cutL]
  | c :: t, cur => by
    rw [cutL]
    split
    · have := cutL_len t []; simp only [List.length_cons]; omega
    · have := cutL_len t (cur ++ [c]); simp only [List.length_cons]; omega
theorem cutL_len_any : ∀ (l cur cur' : List UInt8), (cutL l cur).length = (cutL l cur').length
  | [], _, _ => rfl
  | c :: t, cur, cur' => by
    rw [cutL, cutL]
    split
    · rfl
    · exact cutL_len_any t _ _
theorem cutL_bad : ∀ (l cur : List UInt8), (14 < cur.length ∨ cur.all okc = false) → (cutL l cur).all nameL = false
  | [], cur, h => by
    simp only [cutL, List.all_cons, List.all_nil, Bool.and_true, nameL]
    rcases h with h | h
    · rw [decide_eq_false (by omega)]; simp
    · rw [h]; simp
  | c :: t, cur, h => by
    rw [cutL]
    split
    · have : nameL cur = false := by
        rw [nameL]
        rcases h with h | h
        · rw [decide_eq_false (by omega)]; simp
        · rw [h]; simp
      simp [this]
    · refine cutL_bad t _ ?_
      rcases h with h | h
      · left; simp; omega
      · right; rw [List.all_append, h]; rfl
theorem vrun_cut : ∀ (l : List UInt8) (names : Nat) (last : List UInt8), last.length ≤ 14 → last.all okc = true → vrun l names last = (decide (names + (cutL l []).length ≤ 7) && (cutL l last).all nameL)
  | [], names, last, h1, h2 => by
    by_cases h6 : names ≤ 6
    · have h7 : names + 1 ≤ 7 := by omega
      simp [vrun, cutL, nameL, h2, h1, h6]
    · have h7 : ¬ names + 1 ≤ 7 := by omega
      simp [vrun, h6]
      intro h8
      exact absurd h8 h7
  | c :: t, names, last, h1, h2 => by
    rw [vrun]
    by_cases hc : c.toNat = 47
    · have e1 : ∀ cur, cutL (c :: t) cur = cur :: cutL t [] := fun cur => by rw [cutL, if_pos hc]
      rw [if_pos hc, e1, e1]
      by_cases hb : (last.isEmpty || dots last) = true
      · rw [if_pos hb]
        have : nameL last = false := by
          rw [nameL]
          simp only [Bool.or_eq_true] at hb
          rcases hb with hb | hb <;> simp [hb]
        simp [this]
      · rw [if_neg hb, vrun_cut t (names + 1) [] (by simp) rfl]
        have hb' : (last.isEmpty || dots last) = false := by simpa using hb
        rw [Bool.or_eq_false_iff] at hb'
        have : nameL last = true := by rw [nameL, hb'.1, hb'.2, h2, decide_eq_true h1]; rfl
        simp only [List.all_cons, this, Bool.true_and, List.length_cons]
        congr 1
        simp only [decide_eq_decide]
        omega
    · have e1 : ∀ cur, cutL (c :: t) cur = cutL t (cur ++ [c]) := fun cur => by rw [cutL, if_neg hc]
      rw [if_neg hc, e1, e1, cutL_len_any t ([] ++ [c]) []]
      cases ho : okc c with
      | false =>
        rw [cutL_bad t (last ++ [c]) (.inr (by rw [List.all_append, h2]; simp [ho]))]
        simp
      | true =>
        rw [if_pos rfl]
        by_cases h14 : 14 ≤ last.length
        · rw [if_pos h14, cutL_bad t (last ++ [c]) (.inl (by simp; omega))]
          simp
        · rw [if_neg h14, vrun_cut t names (last ++ [c]) (by simp; omega) (by rw [List.all_append, h2]; simp [ho])]
/-- Valid, as the document says it. -/
theorem validL_cut (l : List UInt8) : validL l = (decide (l.length ≤ 100) && (decide ((cutL l []).length ≤ 6) && (cutL l []).all nameL)) := by
  have h := vrun_cut l 1 [] (by simp) rfl
  have e : decide (1 + (cutL l []).length ≤ 7) = decide ((cutL l []).length ≤ 6) := by simp only [decide_eq_decide]; omega
  rw [e] at h
  rw [← h]
  show validL l = (decide (l.length ≤ 100) && validL l)
  cases hv : validL l with
  | false => simp
  | true => have := valid_len hv; rw [decide_eq_true (by omega)]; rfl

set_option maxHeartbeats 1000000 in
theorem rname_any (s : ByteArray) (w : World) (hs : s.size ≤ 9223372036854775807) : Calls Tryd.prog 51 #[.string s] w fun e w' => e = .returned (.bool (nameL s.data.toList)) ∧ w = w' := by
  by_cases h1 : s.size < 1
  · have hfin : nameL s.data.toList = false := by
      have : s.data.toList = [] := List.eq_nil_of_length_eq_zero (by rw [dlen]; omega)
      rw [this]; rfl
    have Hf := Lib.hid hfin; clear hfin
    have h1' : (s.size : Int) < 1 := by omega
    go_enter Tryd.func51, Tryd.ntmps51
    go_wp2
    go_ret
    exact ⟨by rw [Hf.out]; rfl, rfl⟩
  by_cases h2 : 14 < s.size
  · have hfin : nameL s.data.toList = false := by rw [nameL, decide_eq_false (by simp; omega)]; simp
    have Hf := Lib.hid hfin; clear hfin
    have h1' : ¬ (s.size : Int) < 1 := by omega
    have h2' : (14 : Int) < s.size := by omega
    go_enter Tryd.func51, Tryd.ntmps51
    go_wp2
    go_ret
    exact ⟨by rw [Hf.out]; rfl, rfl⟩
  have h1' : ¬ (s.size : Int) < 1 := by omega
  have h2' : ¬ (14 : Int) < s.size := by omega
  have hE : s.data.toList.isEmpty = false := by
    cases hd : s.data.toList with
    | nil => have := congrArg List.length hd; rw [dlen] at this; simp only [List.length_nil] at this; omega
    | cons => rfl
  cases h3 : (s.toList == [46]) with
  | true =>
    have hfin : nameL s.data.toList = false := by rw [nameL, dots, ← ByteArray.toList_eq, h3]; simp
    have Hf := Lib.hid hfin; clear hfin
    replace hE := Lib.hid hE
    go_enter Tryd.func51, Tryd.ntmps51
    go_wp2
    go_ret
    exact ⟨by rw [Hf.out]; rfl, rfl⟩
  | false =>
    cases h4 : (s.toList == [46, 46]) with
    | true =>
      have hfin : nameL s.data.toList = false := by rw [nameL, dots, ← ByteArray.toList_eq, h4]; simp
      have Hf := Lib.hid hfin; clear hfin
      replace hE := Lib.hid hE
      go_enter Tryd.func51, Tryd.ntmps51
      go_wp2
      go_ret
      exact ⟨by rw [Hf.out]; rfl, rfl⟩
    | false =>
      have hfin : nameL s.data.toList = s.data.toList.all okc := by
        rw [nameL, dots, ← ByteArray.toList_eq, h3, h4, ByteArray.toList_eq, hE, decide_eq_true (by simp; omega)]; rfl
      have Hf := Lib.hid hfin; clear hfin
      replace hE := Lib.hid hE
      go_enter Tryd.func51, Tryd.ntmps51
      go_wp2
      go_loop [3] (fun i => ∃ k : Nat, k ≤ s.size ∧ i = .int .i64 k ∧ s.data.toList.all okc = (s.data.toList.drop k).all okc) (fun i => s.size - (intOf i).toNat)
      case atStart => exact ⟨0, Nat.zero_le _, rfl, rfl⟩
      case round =>
        obtain ⟨k, hk, rfl, hr⟩ := hrel
        by_cases hlt : k < s.size
        · have hki : (k : Int) < s.size := by omega
          obtain ⟨c, hc⟩ : ∃ c, s[k]'hlt = c := ⟨_, rfl⟩
          have hd : s.data.toList.drop k = c :: s.data.toList.drop (k + 1) := by
            rw [List.drop_eq_getElem_cons (by simpa using hlt)]
            congr 1
          rw [hd, List.all_cons] at hr
          replace hd := Lib.hid hd
          cases hok : okc c with
          | true =>
            have hr' : s.data.toList.all okc = (s.data.toList.drop (k + 1)).all okc := by rw [hr, hok]; rfl
            replace hr' := Lib.hid hr'
            clear hr
            rcases okc_yes hok with hk | hk | hk | hk | hk
            all_goals
              have HK := Lib.hid hok; clear hok
              go_wp2
              go_round
              case rel => exact ⟨k + 1, by omega, by go_num, hr'.out⟩
              case measure => simp [intOf]; omega
          | false =>
            have hr' : s.data.toList.all okc = false := by rw [hr, hok]; rfl
            have Hr := Lib.hid (Hf.out.trans hr')
            clear hr hr'
            by_cases h47 : c.toNat = 47
            · have t1 : ¬ (97 : Int) ≤ c.toNat := by omega
              have t2 : ¬ (48 : Int) ≤ c.toNat := by omega
              have t3 : ((c.toNat : Int) == 46) = false := b_no (by omega)
              have t4 : ((c.toNat : Int) == 95) = false := b_no (by omega)
              have t5 : ((c.toNat : Int) == 45) = false := b_no (by omega)
              have HK := Lib.hid hok; clear hok
              replace h47 := Lib.hid h47
              go_wp2
              go_ret
              exact ⟨by rw [Hr.out]; rfl, rfl⟩
            · obtain ⟨⟨t3, t4, t5⟩, hk⟩ := okc_no hok h47
              have HK := Lib.hid hok; clear hok
              rcases hk with hk | hk | hk
              all_goals
                obtain ⟨hk1, hk2⟩ := hk
                go_wp2
                go_ret
                exact ⟨by rw [Hr.out]; rfl, rfl⟩
        · have hfin : s.data.toList.all okc = true := by rw [hr, List.drop_of_length_le (by simp; omega)]; rfl
          have Hr := Lib.hid (Hf.out.trans hfin)
          clear hr hfin
          have hki : ¬ (k : Int) < s.size := by omega
          go_wp2
          go_ret
          exact ⟨by rw [Hr.out]; rfl, rfl⟩

/-- A string as a cell. -/
def strOf (s : ByteArray) : List Value := [.string s]
theorem strOf_len (s : ByteArray) : (strOf s).length = 1 := rfl
theorem Tryd.strT : ElemT Tryd.prog 109 9 1 16 := ElemT.mk' (z := .string ByteArray.empty) Tryd.underlying109 (by kernel_rfl) rfl (by omega)
theorem str_one (p : ByteArray) : ∀ u ∈ (#[.string p] : Array Value).toList, u.oneCell' = true := by
  intro u hu
  simp only [List.mem_cons, List.not_mem_nil, or_false] at hu
  rw [hu]; rfl
def datas (ps : List ByteArray) : List (List UInt8) := ps.map fun p => p.data.toList
theorem datas_snoc (ps : List ByteArray) (p : ByteArray) : datas (ps ++ [p]) = datas ps ++ [p.data.toList] := by simp [datas]
theorem strs_snoc (ps : List ByteArray) (p : ByteArray) : (ps ++ [p]).flatMap strOf = ps.flatMap strOf ++ [.string p] := by simp [strOf]
theorem extract_data' (s : ByteArray) (i j : Nat) : (s.extract i j).data.toList = (s.data.toList.take j).drop i := by
  rw [ByteArray.data_extract, Array.toList_extract, List.extract_eq_take_drop, List.drop_take]
/-- A list of strings that was made. -/
def StrsRes (w : World) (D : List (List UInt8)) (e : Ending) (w' : World) : Prop :=
  ∃ (ps : List ByteArray) (A : Option Addr) (n c : Nat), e = .returned (.slice A n c) ∧ ps.length = n ∧ datas ps = D ∧ Sl w' w'.heap.size 1 A n (ps.flatMap strOf) ∧ Below w.heap.size w w'
def SplitAt (s : ByteArray) (w wr : World) (v3 v4 : Value) (k : Nat) : Prop :=
  ∃ (fr n c : Nat) (A : Option Addr) (ps : List ByteArray), fr ≤ k ∧ v4 = .int .i64 fr ∧ v3 = .slice A n c ∧ ps.length = n ∧ n ≤ k ∧ wr.ownsRow w.heap.size 9 1 (.slice A n c) n (ps.flatMap strOf) ∧
    datas ps ++ cutL (s.data.toList.drop k) ((s.data.toList.take k).drop fr) = cutL s.data.toList [] ∧ Below w.heap.size w wr
theorem own_blk1 {w : World} {base e sz n c : Nat} {A : Option Addr} {L : List Value} (h : w.ownsRow base e sz (.slice A n c) n L) : ∀ g, blkOf A = some g → base ≤ g := by
  intro g hg
  rcases h.2 with ⟨h', _⟩ | ⟨g', cap, cur, hv, hg', _⟩
  · injection h' with h'; subst h'; cases hg
  · injection hv with hA; subst hA; simp only [blkOf, Option.some.injEq] at hg; omega
set_option maxHeartbeats 1000000 in
theorem rsplit_any (s : ByteArray) (w : World) (hs : s.size ≤ 100) : Calls Tryd.prog 50 #[.string s] w (StrsRes w (cutL s.data.toList [])) := by
  go_enter Tryd.func50, Tryd.ntmps50
  go_wp2
  go_loopw [3, 4, 5] (fun v3 v4 v5 wr => ∃ k : Nat, k ≤ s.size ∧ v5 = .int .i64 k ∧ SplitAt s w wr v3 v4 k) (fun _ _ v5 _ => s.size - (intOf v5).toNat)
  case atStart => exact ⟨0, Nat.zero_le _, rfl, 0, 0, 0, none, [], Nat.le_refl _, rfl, rfl, rfl, Nat.le_refl _, World.ownsRow_nil _ _ _ _, by simp [datas], Below.refl _ _⟩
  case round =>
    obtain ⟨k, hk, rfl, fr, n, c, A, ps, hfr, rfl, rfl, hn, hnk, ho, hd, hb⟩ := hrel
    have Ho := Lib.hid ho; clear ho
    have Hn := Lib.hid hn; clear hn
    have hwr := hb.size
    by_cases hlt : k < s.size
    · have hki : (k : Int) < s.size := by omega
      obtain ⟨x, hx⟩ : ∃ x, s[k]'hlt = x := ⟨_, rfl⟩
      have hdk : s.data.toList.drop k = x :: s.data.toList.drop (k + 1) := by
        rw [List.drop_eq_getElem_cons (by simpa using hlt)]
        congr 1
      have htk : s.data.toList.take (k + 1) = s.data.toList.take k ++ [x] := by
        rw [List.take_succ_eq_append_getElem (by simpa using hlt)]
        congr 2
      have hfk : fr ≤ (s.data.toList.take k).length := by simp; omega
      rw [hdk, cutL] at hd
      by_cases h47 : x.toNat = 47
      · have t47 : ((x.toNat : Int) == 47) = true := b_yes (by omega)
        rw [if_pos h47] at hd
        have hd2 : datas (ps ++ [s.extract fr k]) ++ cutL (s.data.toList.drop (k + 1)) ((s.data.toList.take (k + 1)).drop (k + 1)) = cutL s.data.toList [] := by
          have e0 : (s.data.toList.take (k + 1)).drop (k + 1) = [] := List.drop_of_length_le (List.length_take_le _ _)
          rw [datas_snoc, extract_data', e0, ← hd]; simp
        have hp2 := strs_snoc ps (s.extract fr k)
        have Hd := Lib.hid hd2; have Hp := Lib.hid hp2
        clear hd hd2 hdk htk hp2 hfk
        replace h47 := Lib.hid h47
        go_wp2_with (at_builtin; refine wpList_append_one rfl _ _ _ rfl Tryd.strT rfl Ho.out #[.string (s.extract fr k)] rfl (by simp) rfl (str_one _) (by unfold maxLen; omega) (by omega) hwr ?_; intro g1 c1 w4 ho4 hg4 hat4)
        go_roundw
        case rel => exact ⟨k + 1, by omega, by go_num, k + 1, n + 1, c1, _, ps ++ [s.extract fr k], Nat.le_refl _, by go_num, rfl, by rw [List.length_append, Hn.out]; rfl, by omega, by rw [Hp.out]; exact ho4, Hd.out, hb.trans (below_grown hg4 hwr (own_blk1 Ho.out))⟩
        case measure => simp [intOf]; omega
      · have t47 : ((x.toNat : Int) == 47) = false := b_no (by omega)
        rw [if_neg h47] at hd
        have hd2 : datas ps ++ cutL (s.data.toList.drop (k + 1)) ((s.data.toList.take (k + 1)).drop fr) = cutL s.data.toList [] := by
          rw [htk, List.drop_append_of_le_length hfk]; exact hd
        have Hd := Lib.hid hd2
        clear hd hd2 hdk htk hfk
        replace h47 := Lib.hid h47
        go_wp2
        go_roundw
        case rel => exact ⟨k + 1, by omega, by go_num, fr, n, c, A, ps, by omega, rfl, rfl, Hn.out, by omega, Ho.out, Hd.out, hb⟩
        case measure => simp [intOf]; omega
    · obtain rfl : k = s.size := by omega
      have hki : ¬ (s.size : Int) < s.size := by omega
      have hdk : s.data.toList.drop s.size = [] := List.drop_of_length_le (by simp)
      rw [hdk, cutL] at hd
      have hd2 : datas (ps ++ [s.extract fr s.size]) = cutL s.data.toList [] := by rw [datas_snoc, extract_data', ← hd]
      have hp2 := strs_snoc ps (s.extract fr s.size)
      have Hd := Lib.hid hd2; have Hp := Lib.hid hp2
      clear hd hd2 hdk hp2
      go_wp2_with (at_builtin; refine wpList_append_one rfl _ _ _ rfl Tryd.strT rfl Ho.out #[.string (s.extract fr s.size)] rfl (by simp) rfl (str_one _) (by unfold maxLen; omega) (by omega) hwr ?_; intro g1 c1 w4 ho4 hg4 hat4)
      go_ret
      exact ⟨ps ++ [s.extract fr s.size], _, n + 1, c1, rfl, by rw [List.length_append, Hn.out]; rfl, Hd.out, by rw [Hp.out]; exact Sl.of_own ho4, hb.trans (below_grown hg4 hwr (own_blk1 Ho.out))⟩
theorem datas_get {ps : List ByteArray} {k : Nat} {p : ByteArray} (h : ps[k]? = some p) : (datas ps).drop k = p.data.toList :: (datas ps).drop (k + 1) := by
  have := drop_at' h
  unfold datas
  rw [← List.map_drop, this, List.map_cons, ← List.map_drop]
theorem datas_length (ps : List ByteArray) : (datas ps).length = ps.length := by simp [datas]
theorem cutL_mem : ∀ (l cur p : List UInt8), p ∈ cutL l cur → p.length ≤ l.length + cur.length
  | [], cur, p, h => by simp only [cutL, List.mem_cons, List.not_mem_nil, or_false] at h; subst h; omega
  | c :: t, cur, p, h => by
    rw [cutL] at h
    split at h
    · rcases List.mem_cons.1 h with rfl | h
      · omega
      · have := cutL_mem t [] p h; simp only [List.length_cons, List.length_nil] at this ⊢; omega
    · have := cutL_mem t _ p h; simp only [List.length_cons, List.length_append, List.length_nil] at this ⊢; omega
theorem pieces_small {s : ByteArray} {ps : List ByteArray} (h : datas ps = cutL s.data.toList []) : ∀ x ∈ ps, x.size ≤ s.size := by
  intro x hx
  have h1 : x.data.toList ∈ datas ps := List.mem_map.2 ⟨x, hx, rfl⟩
  rw [h] at h1
  have := cutL_mem _ _ _ h1
  simpa using this
set_option maxHeartbeats 1000000 in
theorem rvalid_any (s : ByteArray) (w : World) (hs : s.size ≤ 9223372036854775807) : Calls Tryd.prog 47 #[.string s] w fun e w' => e = .returned (.bool (validL s.data.toList)) ∧ Below w.heap.size w w' := by
  by_cases h1 : 100 < s.size
  · have hfin : validL s.data.toList = false := by rw [validL_cut, decide_eq_false (by simp; omega)]; rfl
    have Hf := Lib.hid hfin; clear hfin
    have h1' : (100 : Int) < s.size := by omega
    go_enter Tryd.func47, Tryd.ntmps47
    go_wp2
    go_ret
    exact ⟨by rw [Hf.out]; rfl, Below.refl _ _⟩
  · have h1' : ¬ (100 : Int) < s.size := by omega
    have hV := validL_cut s.data.toList
    rw [decide_eq_true (show s.data.toList.length ≤ 100 by simp; omega), Bool.true_and] at hV
    have HV := Lib.hid hV; clear hV
    go_enter Tryd.func47, Tryd.ntmps47
    go_upto_region 4 with (go_at_call 50; refine (rsplit_any s _ (by omega)).mono ?_; rintro e w1 ⟨ps, A, n, c, rfl, hn, hd, hS, hb1⟩)
    rw [← hd] at HV
    have Hsm := Lib.hid (pieces_small hd)
    have hn' : n ≤ 101 := by
      have h1 := (cutL_len s.data.toList []).2
      rw [← hd, datas_length, hn] at h1
      simp at h1; omega
    have hdl : (datas ps).length = n := by rw [datas_length, hn]
    rw [hdl] at HV
    have Hn := Lib.hid hn; have HS := Lib.hid hS
    clear hn hd hS hdl
    by_cases h6 : 6 < n
    · have h6' : (6 : Int) < n := by omega
      have Hf := Lib.hid (HV.out.trans (by rw [decide_eq_false (by omega)]; try rfl))
      clear HV
      go_wp2
      go_ret
      exact ⟨by rw [Hf.out]; rfl, hb1⟩
    · have h6' : ¬ (6 : Int) < n := by omega
      have HV2 := HV.out
      rw [decide_eq_true (show n ≤ 6 by omega), Bool.true_and] at HV2
      clear HV
      have Hf := Lib.hid HV2; clear HV2
      go_wp2
      go_loop [4] (fun i => ∃ k : Nat, k ≤ n ∧ i = .int .i64 k ∧ (datas ps).all nameL = ((datas ps).drop k).all nameL) (fun i => n - (intOf i).toNat)
      case atStart => exact ⟨0, Nat.zero_le _, rfl, rfl⟩
      case round =>
        obtain ⟨k, hk, rfl, hr⟩ := hrel
        by_cases hlt : k < n
        · have hki : (k : Int) < n := by omega
          obtain ⟨b, o, x, rfl, hbl, hx, hc⟩ := HS.out.get strOf_len Hn.out hlt
          have c0 := hc 0 _ rfl
          simp only [Nat.add_zero, Nat.mul_one] at c0
          clear hc
          rw [datas_get hx, List.all_cons] at hr
          have hxs : x.size ≤ 9223372036854775807 := by
            have := Hsm.out x (List.mem_of_getElem? hx)
            omega
          clear hx
          cases hq : nameL x.data.toList with
          | true =>
            have Hr := Lib.hid (hr.trans (by rw [hq]; try rfl)); clear hr
            have HQ := Lib.hid hq; clear hq
            go_wp2_with (go_at_call 51; refine (rname_any x _ hxs).mono ?_; rintro e w' ⟨rfl, rfl⟩; rw [HQ.out])
            go_round
            case rel => exact ⟨k + 1, by omega, by go_num, Hr.out⟩
            case measure => simp [intOf]; omega
          | false =>
            have Hr := Lib.hid (Hf.out.trans (hr.trans (by rw [hq]; try rfl))); clear hr
            have HQ := Lib.hid hq; clear hq
            go_wp2_with (go_at_call 51; refine (rname_any x _ hxs).mono ?_; rintro e w' ⟨rfl, rfl⟩; rw [HQ.out])
            go_ret
            exact ⟨by rw [Hr.out]; rfl, hb1⟩
        · have Hr := Lib.hid (Hf.out.trans (hr.trans (by rw [List.drop_of_length_le (by rw [datas_length, Hn.out]; omega)]; try rfl))); clear hr
          have hki : ¬ (k : Int) < n := by omega
          go_wp2
          go_ret
          exact ⟨by rw [Hr.out]; rfl, hb1⟩
/-- The last part and the last slash. -/
theorem cutL_snoc : ∀ (l cur : List UInt8) (c : UInt8), cutL (l ++ [c]) cur = if c.toNat = 47 then cutL l cur ++ [[]] else (cutL l cur).dropLast ++ [(cutL l cur).getLastD [] ++ [c]]
  | [], cur, c => by simp [cutL]
  | a :: t, cur, c => by
    rw [List.cons_append, cutL, cutL]
    by_cases ha : a.toNat = 47
    · rw [if_pos ha, if_pos ha, cutL_snoc t [] c]
      have hne : cutL t [] ≠ [] := by have := (cutL_len t []).1; intro e; rw [e] at this; simp at this
      obtain ⟨y, ys, hy⟩ := List.exists_cons_of_ne_nil hne
      rw [hy]
      split <;> simp [List.dropLast, List.getLastD]
    · rw [if_neg ha, if_neg ha, cutL_snoc t _ c]
theorem lastTo_append (l m : List UInt8) (c : UInt8) : ∀ k, k ≤ l.length → lastTo (l ++ m) c k = lastTo l c k
  | 0, _ => rfl
  | k + 1, h => by rw [lastTo, lastTo, List.getElem?_append_left (by omega), lastTo_append l m c k (by omega)]
theorem last_slash_cut (n : Nat) : ∀ l : List UInt8, l.length = n → lastTo l 47 l.length = (l.length : Int) - ((cutL l []).getLastD []).length - 1 := by
  induction n with
  | zero => intro l h; rw [List.eq_nil_of_length_eq_zero h]; rfl
  | succ n ih =>
    intro l h
    obtain ⟨m, c, rfl⟩ : ∃ m c, l = m ++ [c] := ⟨l.dropLast, l.getLast (by intro e; rw [e] at h; simp at h), (List.dropLast_concat_getLast _).symm⟩
    have hm : m.length = n := by simpa using h
    have := ih m hm
    rw [cutL_snoc, List.length_append, List.length_singleton, lastTo, List.getElem?_concat_length]
    by_cases hc : c = 47
    · subst hc
      rw [if_pos rfl, if_pos (show UInt8.toNat 47 = 47 from rfl), List.getLastD_concat]
      simp
    · have h1 : ¬ c.toNat = 47 := fun e => hc (UInt8.toNat_inj.1 e)
      rw [if_neg (by intro e; injection e with e; exact hc e), if_neg h1, List.getLastD_concat, lastTo_append _ _ _ _ (Nat.le_refl _), this]
      simp
      omega
theorem cutL_one (l : List UInt8) (h : (cutL l []).length < 2) : ((cutL l []).getLastD []).length = l.length := by
  suffices H : ∀ (l cur : List UInt8), (cutL l cur).length < 2 → (cutL l cur).getLastD [] = cur ++ l by rw [H l [] h]; rfl
  intro l
  induction l with
  | nil => intro cur _; simp [cutL]
  | cons c t ih =>
    intro cur h
    rw [cutL] at h ⊢
    split at h
    · have := (cutL_len t []).1; simp only [List.length_cons] at h; omega
    · rename_i hc
      rw [if_neg hc, ih _ h]; simp
theorem parentB_no {s : ByteArray} (h : validL s.data.toList = false) : parentB s = ByteArray.empty := by simp [parentB, h]
theorem parentB_one {s : ByteArray} (h : (cutL s.data.toList []).length < 2) : parentB s = ByteArray.empty := by
  unfold parentB lastIx
  split
  · have h1 := last_slash_cut _ s.data.toList rfl
    rw [cutL_one _ h] at h1
    have h2 : s.size = s.data.toList.length := by simp
    rw [h2, h1, show ((s.data.toList.length : Int) - s.data.toList.length - 1).toNat = 0 by omega]
    exact ba_ext (by simp)
  · rfl
theorem parentB_two {s : ByteArray} {m : Nat} (hv : validL s.data.toList = true) (hm : ((cutL s.data.toList []).getLastD []).length = m) (h2 : m + 1 ≤ s.size) : parentB s = s.extract 0 (s.size - m - 1) := by
  unfold parentB lastIx
  rw [if_pos hv]
  have h1 := last_slash_cut _ s.data.toList rfl
  have h3 : s.data.toList.length = s.size := by simp
  rw [h3, hm] at h1
  rw [h1]
  congr 1
  omega
theorem cutL_two : ∀ (l cur : List UInt8), 2 ≤ (cutL l cur).length → ((cutL l cur).getLastD []).length + 1 ≤ l.length
  | [], cur, h => by simp [cutL] at h
  | c :: t, cur, h => by
    rw [cutL] at h ⊢
    by_cases hc : c.toNat = 47
    · rw [if_pos hc]
      have h1 := (cutL_len t []).1
      have hne : cutL t [] ≠ [] := by intro e; rw [e] at h1; simp at h1
      obtain ⟨y, ys, hy⟩ := List.exists_cons_of_ne_nil hne
      have e : (cur :: cutL t []).getLastD [] = (cutL t []).getLastD [] := by rw [hy]; simp [List.getLastD]
      rw [e]
      by_cases h2 : 2 ≤ (cutL t []).length
      · have := cutL_two t [] h2; rw [List.length_cons]; omega
      · rw [cutL_one t (by omega)]; simp
    · rw [if_neg hc] at h ⊢
      have := cutL_two t _ h
      rw [List.length_cons]; omega
theorem last_get {ps : List ByteArray} {n : Nat} {x : ByteArray} (hn : ps.length = n + 1) (hx : ps[n]? = some x) : (datas ps).getLastD [] = x.data.toList := by
  have h1 : (datas ps).getLastD [] = ((datas ps)[n]?).getD [] := by
    rw [List.getLastD_eq_getLast?, List.getLast?_eq_getElem?, datas_length, hn]; rfl
  rw [h1, datas, List.getElem?_map, hx]; rfl
end Go.Proofs.YtgeiegjpnnbloaaDoor
