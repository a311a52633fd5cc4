/- path.Valid: what it answers, as a plain function of the bytes. path.Parent. -/
import Derived.Test.YtgeiegjpnnbloaaDoorKit
import Derived.Laws.RangeAny

namespace Go.Proofs.YtgeiegjpnnbloaaDoor
open Go.RowKit

def okc (c : UInt8) : Bool := (97 ≤ c.toNat && c.toNat ≤ 122) || (48 ≤ c.toNat && c.toNat ≤ 57) || c.toNat == 46 || c.toNat == 95 || c.toNat == 45
def dots (l : List UInt8) : Bool := l == [46] || l == [46, 46]
/-- Valid from some place on: how many names there are, and the last one as far as it goes. -/
def vrun : List UInt8 → Nat → List UInt8 → Bool
  | [], names, last => !last.isEmpty && !dots last && decide (names ≤ 6)
  | c :: t, names, last =>
    if c.toNat = 47 then (if last.isEmpty || dots last then false else vrun t (names + 1) [])
    else if okc c then (if 14 ≤ last.length then false else vrun t names (last ++ [c])) else false
def validL (l : List UInt8) : Bool := vrun l 1 []

theorem vrun_slash_bad {c : UInt8} {t last : List UInt8} {names : Nat} (hc : c.toNat = 47) (h : (last.isEmpty || dots last) = true) : vrun (c :: t) names last = false := by
  simp only [vrun, if_pos hc, h, if_true]
theorem vrun_slash {c : UInt8} {t last : List UInt8} {names : Nat} (hc : c.toNat = 47) (h : (last.isEmpty || dots last) = false) : vrun (c :: t) names last = vrun t (names + 1) [] := by
  simp [vrun, if_pos hc, h]
theorem vrun_no {c : UInt8} {t last : List UInt8} {names : Nat} (hc : ¬ c.toNat = 47) (h : okc c = false) : vrun (c :: t) names last = false := by
  simp [vrun, if_neg hc, h]
theorem vrun_long {c : UInt8} {t last : List UInt8} {names : Nat} (hc : ¬ c.toNat = 47) (h : 14 ≤ last.length) : vrun (c :: t) names last = false := by
  simp [vrun, if_neg hc, h]
theorem vrun_char {c : UInt8} {t last : List UInt8} {names : Nat} (hc : ¬ c.toNat = 47) (ho : okc c = true) (h : ¬ 14 ≤ last.length) : vrun (c :: t) names last = vrun t names (last ++ [c]) := by
  simp [vrun, if_neg hc, ho, h]

theorem vrun_len : ∀ (l : List UInt8) (names : Nat) (last : List UInt8), vrun l names last = true → last.length ≤ 14 → names ≤ 6 ∧ l.length + last.length + 15 * names ≤ 104
  | [], names, last, h, hl => by simp [vrun] at h; simp; omega
  | c :: t, names, last, h, hl => by
    simp only [vrun] at h
    split at h
    · split at h
      · cases h
      · have := vrun_len t (names + 1) [] h (by simp)
        simp at this ⊢
        omega
    · split at h
      · split at h
        · cases h
        · have := vrun_len t names (last ++ [c]) h (by simp; omega)
          simp at this ⊢
          omega
      · cases h
/-- A path is short. -/
theorem valid_len {l : List UInt8} (h : validL l = true) : l.length ≤ 89 := by
  have := vrun_len l 1 [] h (by simp)
  simp at this
  omega
theorem ba_ext {a b : ByteArray} (h : a.data.toList = b.data.toList) : a = b := by
  obtain ⟨⟨x⟩⟩ := a
  obtain ⟨⟨y⟩⟩ := b
  simp at h
  rw [h]
theorem slash_bad {last : ByteArray} (h : (last.data.toList.isEmpty || dots last.data.toList) = true) : last = ⟨#[]⟩ ∨ last = ⟨#[46]⟩ ∨ last = ⟨#[46, 46]⟩ := by
  simp only [dots, Bool.or_eq_true, List.isEmpty_iff, beq_iff_eq] at h
  rcases h with h | h | h
  · exact .inl (ba_ext h)
  · exact .inr (.inl (ba_ext h))
  · exact .inr (.inr (ba_ext h))
theorem slash_good {last : ByteArray} (h : (last.data.toList.isEmpty || dots last.data.toList) = false) : 0 < last.size ∧ (last.toList == [46]) = false ∧ (last.toList == [46, 46]) = false := by
  simp only [dots, Bool.or_eq_false_iff] at h
  obtain ⟨h1, h2, h3⟩ := h
  refine ⟨?_, ?_, ?_⟩
  · rcases Nat.eq_zero_or_pos last.size with h | h
    · exfalso
      have : last.data.toList = [] := List.eq_nil_of_length_eq_zero (by simpa using h)
      rw [this] at h1; cases h1
    · exact h
  · rw [ByteArray.toList_eq]; exact h2
  · rw [ByteArray.toList_eq]; exact h3
theorem b_no {c : UInt8} {k : Int} (h : ¬ (c.toNat : Int) = k) : ((c.toNat : Int) == k) = false := beq_eq_false_iff_ne.2 h
theorem b_yes {c : UInt8} {k : Int} (h : (c.toNat : Int) = k) : ((c.toNat : Int) == k) = true := beq_iff_eq.2 h
theorem okc_no {c : UInt8} (h : okc c = false) (_ : ¬ c.toNat = 47) : (((c.toNat : Int) == 46) = false ∧ ((c.toNat : Int) == 95) = false ∧ ((c.toNat : Int) == 45) = false) ∧
    ((¬ (97 : Int) ≤ c.toNat ∧ ¬ (48 : Int) ≤ c.toNat) ∨ (¬ (97 : Int) ≤ c.toNat ∧ (48 : Int) ≤ c.toNat ∧ ¬ (c.toNat : Int) ≤ 57) ∨ ((97 : Int) ≤ c.toNat ∧ ¬ (c.toNat : Int) ≤ 122 ∧ (48 : Int) ≤ c.toNat ∧ ¬ (c.toNat : Int) ≤ 57)) := by
  simp [okc] at h
  exact ⟨⟨b_no (by omega), b_no (by omega), b_no (by omega)⟩, by omega⟩
theorem okc_yes {c : UInt8} (h : okc c = true) : ((97 : Int) ≤ c.toNat ∧ (c.toNat : Int) ≤ 122) ∨ (¬ (97 : Int) ≤ c.toNat ∧ (48 : Int) ≤ c.toNat ∧ (c.toNat : Int) ≤ 57) ∨ (¬ (97 : Int) ≤ c.toNat ∧ ¬ (48 : Int) ≤ c.toNat ∧ ((c.toNat : Int) == 46) = true) ∨
    (¬ (97 : Int) ≤ c.toNat ∧ (48 : Int) ≤ c.toNat ∧ ¬ (c.toNat : Int) ≤ 57 ∧ ((c.toNat : Int) == 46) = false ∧ ((c.toNat : Int) == 95) = true) ∨
    (¬ (97 : Int) ≤ c.toNat ∧ ¬ (48 : Int) ≤ c.toNat ∧ ((c.toNat : Int) == 46) = false ∧ ((c.toNat : Int) == 95) = false ∧ ((c.toNat : Int) == 45) = true) := by
  simp [okc] at h
  rcases h with ((((h | h) | h) | h) | h)
  · exact .inl (by omega)
  · exact .inr (.inl (by omega))
  · exact .inr (.inr (.inl ⟨by omega, by omega, b_yes (by omega)⟩))
  · exact .inr (.inr (.inr (.inl ⟨by omega, by omega, by omega, b_no (by omega), b_yes (by omega)⟩)))
  · exact .inr (.inr (.inr (.inr ⟨by omega, by omega, b_no (by omega), b_no (by omega), b_yes (by omega)⟩)))
def BadAt (s : ByteArray) (w : World) (a : Act) (wr : World) : Prop := ∃ u : Nat → Value, a = ⟨List.toArray (u 0 :: u 1 :: u 2 :: u 3 :: u 4 :: u 5 :: u 6 :: u 7 :: u 8 :: u 9 :: u 10 :: u 11 :: u 12 :: u 13 :: u 14 :: u 15 :: u 16 :: u 17 :: u 18 :: u 19 :: u 20 :: u 21 :: u 22 :: u 23 :: u 24 :: u 25 :: u 26 :: u 27 :: u 28 :: u 29 :: u 30 :: u 31 :: u 32 :: u 33 :: u 34 :: u 35 :: u 36 :: u 37 :: u 38 :: u 39 :: u 40 :: u 41 :: u 42 :: u 43 :: u 44 :: u 45 :: u 46 :: u 47 :: u 48 :: u 49 :: u 50 :: u 51 :: u 52 :: u 53 :: u 54 :: u 55 :: u 56 :: u 57 :: u 58 :: u 59 :: u 60 :: u 61 :: u 62 :: u 63 :: u 64 :: u 65 :: u 66 :: u 67 :: u 68 :: u 69 :: u 70 :: u 71 :: u 72 :: u 73 :: u 74 :: u 75 :: u 76 :: u 77 :: u 78 :: u 79 :: []), []⟩ ∧ validL s.data.toList = false ∧ Below w.heap.size w wr
theorem BadAt.mk {s : ByteArray} {w wr : World} {a : Act} (h : a = ⟨List.toArray (a.tmps.getD 0 undef :: a.tmps.getD 1 undef :: a.tmps.getD 2 undef :: a.tmps.getD 3 undef :: a.tmps.getD 4 undef :: a.tmps.getD 5 undef :: a.tmps.getD 6 undef :: a.tmps.getD 7 undef :: a.tmps.getD 8 undef :: a.tmps.getD 9 undef :: a.tmps.getD 10 undef :: a.tmps.getD 11 undef :: a.tmps.getD 12 undef :: a.tmps.getD 13 undef :: a.tmps.getD 14 undef :: a.tmps.getD 15 undef :: a.tmps.getD 16 undef :: a.tmps.getD 17 undef :: a.tmps.getD 18 undef :: a.tmps.getD 19 undef :: a.tmps.getD 20 undef :: a.tmps.getD 21 undef :: a.tmps.getD 22 undef :: a.tmps.getD 23 undef :: a.tmps.getD 24 undef :: a.tmps.getD 25 undef :: a.tmps.getD 26 undef :: a.tmps.getD 27 undef :: a.tmps.getD 28 undef :: a.tmps.getD 29 undef :: a.tmps.getD 30 undef :: a.tmps.getD 31 undef :: a.tmps.getD 32 undef :: a.tmps.getD 33 undef :: a.tmps.getD 34 undef :: a.tmps.getD 35 undef :: a.tmps.getD 36 undef :: a.tmps.getD 37 undef :: a.tmps.getD 38 undef :: a.tmps.getD 39 undef :: a.tmps.getD 40 undef :: a.tmps.getD 41 undef :: a.tmps.getD 42 undef :: a.tmps.getD 43 undef :: a.tmps.getD 44 undef :: a.tmps.getD 45 undef :: a.tmps.getD 46 undef :: a.tmps.getD 47 undef :: a.tmps.getD 48 undef :: a.tmps.getD 49 undef :: a.tmps.getD 50 undef :: a.tmps.getD 51 undef :: a.tmps.getD 52 undef :: a.tmps.getD 53 undef :: a.tmps.getD 54 undef :: a.tmps.getD 55 undef :: a.tmps.getD 56 undef :: a.tmps.getD 57 undef :: a.tmps.getD 58 undef :: a.tmps.getD 59 undef :: a.tmps.getD 60 undef :: a.tmps.getD 61 undef :: a.tmps.getD 62 undef :: a.tmps.getD 63 undef :: a.tmps.getD 64 undef :: a.tmps.getD 65 undef :: a.tmps.getD 66 undef :: a.tmps.getD 67 undef :: a.tmps.getD 68 undef :: a.tmps.getD 69 undef :: a.tmps.getD 70 undef :: a.tmps.getD 71 undef :: a.tmps.getD 72 undef :: a.tmps.getD 73 undef :: a.tmps.getD 74 undef :: a.tmps.getD 75 undef :: a.tmps.getD 76 undef :: a.tmps.getD 77 undef :: a.tmps.getD 78 undef :: a.tmps.getD 79 undef :: []), []⟩) (hv : validL s.data.toList = false) (hb : Below w.heap.size w wr) : BadAt s w a wr := ⟨fun i => a.tmps.getD i undef, h, hv, hb⟩
theorem extract_one {s : ByteArray} {pos : Nat} {c : UInt8} (h : pos < s.size) (hc : s[pos]'h = c) : s.extract pos (pos + 1) = ⟨#[c]⟩ := ba_ext (by
  rw [ByteArray.data_extract, Array.toList_extract, List.extract_eq_take_drop]
  rw [show pos + 1 - pos = 1 by omega, List.drop_eq_getElem_cons (by simpa using h)]
  simp only [List.take_succ_cons, List.take_zero, List.cons.injEq, and_true]
  exact hc)
theorem snoc_data (l : ByteArray) (c : UInt8) : (l ++ ⟨#[c]⟩ : ByteArray).data.toList = l.data.toList ++ [c] := by simp
theorem snoc_size (l : ByteArray) (c : UInt8) : (l ++ ⟨#[c]⟩ : ByteArray).size = l.size + 1 := by rw [ByteArray.size_append]; rfl
theorem vrun_end (names : Nat) (last : ByteArray) : vrun [] names last.data.toList = (decide (0 < last.size) && (!(last.toList == [46]) && (!(last.toList == [46, 46]) && decide (names ≤ 6)))) := by
  have e : (!last.data.toList.isEmpty) = decide (0 < last.size) := by
    cases hl : last.data.toList with
    | nil => have : last.size = 0 := by have := congrArg List.length hl; simpa using this
             simp [this]
    | cons a t => have : last.size = t.length + 1 := by have := congrArg List.length hl; simpa using this
                  simp [this]
  rw [ByteArray.toList_eq]
  simp only [vrun, dots, e, Bool.not_or, Bool.and_assoc]
theorem ret_bool {a b : Bool} (h : a = b) : Ending.returned (.bool a) = .returned (.bool b) := by rw [h]
def ValidAt (s : ByteArray) (w wr : World) (v3 v4 v5 : Value) (pos : Nat) : Prop :=
  ∃ (names : Nat) (last : ByteArray), vrun (s.data.toList.drop pos) names last.data.toList = validL s.data.toList ∧ 2 * names + last.size ≤ pos + 2 ∧ last.size ≤ 14 ∧ v3 = .int .i64 names ∧ v4 = .int .i64 last.size ∧ v5 = .string last ∧ wr = w.iter s pos

set_option maxHeartbeats 4000000 in
theorem valid_any (s : ByteArray) (w : World) (hs : s.size ≤ 9223372036854775807) : Calls Tryd.prog 43 #[.string s] w fun e w' => e = .returned (.bool (validL s.data.toList)) ∧ Below w.heap.size w w' := by
  go_enter Tryd.func43, Tryd.ntmps43
  go_wp2
  refine wp_scope_J 0 (BadAt s w) (fun _ _ => 0) (by rfl) ?_ fun pass => ?_
  · rintro a wr ⟨u, rfl, hv, hb⟩
    replace hv := Lib.hid hv
    go_wp2
    exact And.intro rfl ⟨_, (results_tmp rfl _ _ _).trans rfl, by rw [hv.out]; rfl, hb⟩
  · replace pass := Lib.hid pass
    go_upto_block 0 with (fail)
    go_wp2
    go_loopw [3, 4, 5] (fun v3 v4 v5 wr => ∃ pos, pos ≤ s.size ∧ ValidAt s w wr v3 v4 v5 pos) (fun _ _ _ wr => s.size - wr.iterPos w.heap.size)
    case atStart => exact ⟨0, Nat.zero_le _, 1, ByteArray.empty, rfl, (by show 2 * 1 + 0 ≤ 0 + 2; omega), Nat.zero_le _, rfl, rfl, rfl, rfl⟩
    case round =>
      obtain ⟨pos, hpos, names, last, hv, hn, hl, rfl, rfl, rfl, rfl⟩ := hrel
      by_cases hlt : pos < s.size
      · obtain ⟨c, hc⟩ : ∃ c, s[pos]'hlt = c := ⟨_, rfl⟩
        have hd : s.data.toList.drop pos = c :: s.data.toList.drop (pos + 1) := by
          rw [List.drop_eq_getElem_cons (by simpa using hlt)]
          congr 1
        rw [hd] at hv
        replace hd := Lib.hid hd
        by_cases ha : c.toNat < 128
        · have hnx := fun ty => run_next_ascii (P := Tryd.prog) w s pos ty hlt (by rw [hc]; exact ha)
          rw [hc] at hnx
          by_cases h47 : c.toNat = 47
          · have t47 : ((c.toNat : Int) == 47) = true := b_yes (by omega)
            cases hbad : (last.data.toList.isEmpty || dots last.data.toList) with
            | true =>
              rw [vrun_slash_bad h47 hbad] at hv
              have HV := Lib.hid hv.symm
              clear hv
              replace h47 := Lib.hid h47
              have hb := slash_bad hbad
              replace hbad := Lib.hid hbad
              rcases hb with hb | hb | hb
              all_goals
                subst hb
                go_wp2
                all_goals
                  refine wp_goto ?_
                  exact And.intro rfl (BadAt.mk rfl HV.out ((Below.refl _ _).alloc (Nat.le_refl _) _))
            | false =>
              rw [vrun_slash h47 hbad] at hv
              obtain ⟨g1, g2, g3⟩ := slash_good hbad
              replace h47 := Lib.hid h47
              replace hbad := Lib.hid hbad
              replace hv := Lib.hid hv
              have hn1 : ((names + 1 : Nat) : Int) = (names : Int) + 1 := by omega
              replace hn1 := Lib.hid hn1
              have g0 : ((last.size : Int) == 0) = false := beq_eq_false_iff_ne.2 (by omega)
              go_wp2
              go_roundw
              case rel => exact ⟨pos + 1, by omega, names + 1, ByteArray.empty, hv.out, (by show 2 * (names + 1) + 0 ≤ _; omega), Nat.zero_le _, by rw [hn1.out], rfl, rfl, rfl⟩
              case measure => simp; omega
          · have t47 : ((c.toNat : Int) == 47) = false := b_no (by omega)
            cases hok : okc c with
            | false =>
              rw [vrun_no h47 hok] at hv
              have HV := Lib.hid hv.symm
              clear hv
              obtain ⟨⟨n3, n4, n5⟩, hk⟩ := okc_no hok h47
              replace hok := Lib.hid hok
              rcases hk with hk | hk | hk
              all_goals
                obtain ⟨hk1, hk2⟩ := hk
                go_wp2
                refine wp_goto ?_
                exact And.intro rfl (BadAt.mk rfl HV.out ((Below.refl _ _).alloc (Nat.le_refl _) _))
            | true =>
              by_cases h14 : 14 ≤ last.size
              · rw [vrun_long h47 (by simpa using h14)] at hv
                have HV := Lib.hid hv.symm
                clear hv
                have h14' : (14 : Int) ≤ last.size := by omega
                rcases okc_yes hok with hk | hk | hk | hk | hk
                all_goals
                  replace hok := Lib.hid hok
                  go_wp2
                  all_goals
                    refine wp_goto ?_
                    exact And.intro rfl (BadAt.mk rfl HV.out ((Below.refl _ _).alloc (Nat.le_refl _) _))
              · rw [vrun_char h47 hok (by simpa using h14)] at hv
                have hsl : s.extract pos (pos + 1) = ⟨#[c]⟩ := extract_one hlt hc
                replace hv := Lib.hid hv
                replace hsl := Lib.hid hsl
                rcases okc_yes hok with hk | hk | hk | hk | hk
                all_goals
                  replace hok := Lib.hid hok
                  go_wp2
                  go_roundw
                  case rel => exact ⟨pos + 1, by omega, names, last ++ ⟨#[c]⟩, by rw [snoc_data]; exact hv.out, by rw [snoc_size]; omega, by rw [snoc_size]; omega, rfl, by rw [snoc_size]; rfl, by rw [hsl.out], rfl⟩
                  case measure => simp; omega
        · obtain ⟨r, q, hr⟩ : ∃ r q, Utf8.decode s pos = (r, q) := ⟨_, _, rfl⟩
          have hh := decode_high s pos hlt (by rw [hc]; omega)
          have hnx := fun ty => run_next_any (P := Tryd.prog) w s pos ty hlt
          simp only [hr] at hh hnx
          obtain ⟨hr1, hr2⟩ := hh
          have hno : ¬ c.toNat = 47 := by omega
          have hok : okc c = false := by simp [okc]; omega
          rw [vrun_no hno hok] at hv
          have HV := Lib.hid hv.symm
          have t1 : ((r : Int) == 47) = false := beq_eq_false_iff_ne.2 (by omega)
          have t2 : (97 : Int) ≤ r := by omega
          have t3 : ¬ (r : Int) ≤ 122 := by omega
          have t4 : (48 : Int) ≤ r := by omega
          have t5 : ¬ (r : Int) ≤ 57 := by omega
          have t6 : ((r : Int) == 46) = false := beq_eq_false_iff_ne.2 (by omega)
          have t7 : ((r : Int) == 95) = false := beq_eq_false_iff_ne.2 (by omega)
          have t8 : ((r : Int) == 45) = false := beq_eq_false_iff_ne.2 (by omega)
          replace hok := Lib.hid hok
          clear hv hr
          go_wp2
          all_goals
            refine wp_goto ?_
            exact And.intro rfl (BadAt.mk rfl HV.out ((Below.refl _ _).alloc (Nat.le_refl _) _))
      · have hnx := fun ty => run_next_end (P := Tryd.prog) w s pos ty hlt
        have hd : s.data.toList.drop pos = [] := List.drop_of_length_le (by simp; omega)
        rw [hd, vrun_end] at hv
        have HV := Lib.hid hv.symm
        clear hv hd
        by_cases h0 : 0 < last.size
        · have g0 : (0 : Int) < last.size := by omega
          cases g1 : (last.toList == [46]) with
          | true =>
            have G1 := Lib.hid g1
            go_wp2
            exact And.intro rfl ⟨_, (results_tmp rfl _ _ _).trans rfl, (by rw [HV.out]; show Ending.returned (.bool _) = _; simp [h0, G1.out]), (Below.refl _ _).alloc (Nat.le_refl _) _⟩
          | false =>
            cases g2 : (last.toList == [46, 46]) with
            | true =>
              have G1 := Lib.hid g1
              have G2 := Lib.hid g2
              go_wp2
              exact And.intro rfl ⟨_, (results_tmp rfl _ _ _).trans rfl, (by rw [HV.out]; show Ending.returned (.bool _) = _; simp [h0, G1.out, G2.out]), (Below.refl _ _).alloc (Nat.le_refl _) _⟩
            | false =>
              have G1 := Lib.hid g1
              have G2 := Lib.hid g2
              by_cases h6 : names ≤ 6
              · have h6' : (names : Int) ≤ 6 := by omega
                go_wp2
                exact And.intro rfl ⟨_, (results_tmp rfl _ _ _).trans rfl, (by rw [HV.out]; show Ending.returned (.bool _) = _; simp [h0, G1.out, G2.out, h6]), (Below.refl _ _).alloc (Nat.le_refl _) _⟩
              · have h6' : ¬ (names : Int) ≤ 6 := by omega
                go_wp2
                exact And.intro rfl ⟨_, (results_tmp rfl _ _ _).trans rfl, (by rw [HV.out]; show Ending.returned (.bool _) = _; simp [h0, G1.out, G2.out, h6]), (Below.refl _ _).alloc (Nat.le_refl _) _⟩
        · have g0 : ¬ (0 : Int) < last.size := by omega
          go_wp2
          exact And.intro rfl ⟨_, (results_tmp rfl _ _ _).trans rfl, (by rw [HV.out]; show Ending.returned (.bool _) = _; simp [h0]), (Below.refl _ _).alloc (Nat.le_refl _) _⟩
end Go.Proofs.YtgeiegjpnnbloaaDoor

namespace Go.Proofs.YtgeiegjpnnbloaaDoor
open Go.RowKit

/-- The last place ahead of k where c stands; -1: there is none. -/
def lastTo (l : List UInt8) (c : UInt8) : Nat → Int
  | 0 => -1
  | k + 1 => if l[k]? = some c then k else lastTo l c k
theorem lastTo_lt (l : List UInt8) (c : UInt8) : ∀ k, -1 ≤ lastTo l c k ∧ lastTo l c k < k
  | 0 => by simp [lastTo]
  | k + 1 => by
    have := lastTo_lt l c k
    unfold lastTo
    split <;> omega
def lastIx (s : ByteArray) (c : UInt8) : Int := lastTo s.data.toList c s.size
/-- The parent's text. -/
def parentB (s : ByteArray) : ByteArray := if validL s.data.toList = true then s.extract 0 (lastIx s 47).toNat else ByteArray.empty
theorem parentB_size (s : ByteArray) : (parentB s).size ≤ s.size := by
  unfold parentB
  split
  · simp; omega
  · exact Nat.zero_le _
end Go.Proofs.YtgeiegjpnnbloaaDoor
