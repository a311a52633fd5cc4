/- slices.symMergeCmpFunc at nodes: two sorted parts, however long. -/
import Derived.Test.YtdjlchbgdehccaaStable5
import Derived.Deep.DeepCutAuto
namespace Go.Proofs.Ytdjlchbgdehccaa
open Go.RowKit Go.Deep

theorem perm_four (U V : List Node) (u v : Nat) : ((U.take u ++ V.take v) ++ (U.drop u ++ V.drop v)).Perm (U ++ V) := by
  have h1 : ((U.take u ++ V.take v) ++ (U.drop u ++ V.drop v)).Perm (U.take u ++ (U.drop u ++ (V.take v ++ V.drop v))) := by
    rw [List.append_assoc]
    refine List.Perm.append_left _ ?_
    rw [← List.append_assoc, ← List.append_assoc]
    exact List.Perm.append_right _ List.perm_append_comm
  rw [List.take_append_drop, ← List.append_assoc (U.take u), List.take_append_drop] at h1
  exact h1
/-- Where the halves are parted. -/
structure SymP (U V : List Node) (a m b mid s0 r0 : Nat) : Prop where
  h1 : a ≤ s0
  h2 : s0 ≤ r0
  h3 : r0 ≤ m
  h4 : r0 ≤ mid
  h5 : mid + m ≤ s0 + b
  h6 : s0 = a ∨ s0 + b = mid + m
  h7 : r0 = m ∨ r0 = mid
/-- The numbers of a merge. -/
structure SymF (n a m b mid nn pp lu lv N : Nat) : Prop where
  hn : n ≤ 1000000
  hbn : b ≤ n
  hmid : (a + b) / 2 = mid
  hab : a + 4 ≤ b
  ham : a < m
  hmb : m < b
  hm : m = a + lu
  hb : b = m + lv
  hnn : mid + m = nn
  hpp : nn - 1 = pp
  hN : lu + lv ≤ N + 1
theorem sym_arith {n a m b mid nn pp lu lv N s0 r0 st r c0 pc : Nat} (F : SymF n a m b mid nn pp lu lv N)
    (q1 : a ≤ s0) (q3 : r0 ≤ m) (q4 : r0 ≤ mid) (q5 : mid + m ≤ s0 + b) (hs0 : s0 ≤ st) (hlt : st < r) (hr0 : r ≤ r0) (hc0 : (st + r) / 2 = c0) (hpc : pp - c0 = pc) :
    st ≤ c0 ∧ c0 < r ∧ (pp : Int) - c0 = pc ∧ pc ≤ 2000000 ∧ c0 < n ∧ pc < n ∧ c0 - a < lu ∧ mid - 1 - c0 < lv ∧ a ≤ c0 ∧ a + (c0 - a) = c0 ∧ pc = m + (mid - 1 - c0) ∧ ((st : Int) + r) / 2 = c0 ∧ c0 + 1 - 1 - a = c0 - a ∧ mid - (c0 + 1) = mid - 1 - c0 ∧ c0 + 1 ≤ r ∧ s0 ≤ c0 ∧ st + r ≤ 4000000 := by
  obtain ⟨hn, hbn, hmid, hab, ham, hmb, hm, hb, hnn, hpp, hN⟩ := F
  refine ⟨by omega, by omega, by omega, by omega, by omega, by omega, by omega, by omega, by omega, by omega, by omega, by omega, by omega, by omega, by omega, by omega, by omega⟩
theorem sym_parts {n a m b mid nn pp lu lv N s0 r0 st u v en : Nat} (F : SymF n a m b mid nn pp lu lv N)
    (q1 : a ≤ s0) (q3 : r0 ≤ m) (q4 : r0 ≤ mid) (q5 : mid + m ≤ s0 + b) (hs0 : s0 ≤ st) (hr0 : st ≤ r0) (hu : st - a = u) (hv : mid - st = v) (hen : nn - st = en) :
    (nn : Int) - st = en ∧ en ≤ 2000000 ∧ u ≤ lu ∧ v ≤ lv ∧ a + u = st ∧ mid = st + v ∧ m = st + (lu - u) ∧ en = m + v ∧ b = en + (lv - v) ∧ en = mid + (lu - u) ∧ u + v ≤ N ∧ (lu - u) + (lv - v) ≤ N := by
  obtain ⟨hn, hbn, hmid, hab, ham, hmb, hm, hb, hnn, hpp, hN⟩ := F
  refine ⟨by omega, by omega, by omega, by omega, by omega, by omega, by omega, by omega, by omega, by omega, by omega, by omega⟩
theorem wrap_small {x : Int} (h0 : -4000000 ≤ x) (h : x ≤ 4000000) : IntKind.i64.wrap x = x := by rw [IntKind.wrap_i64]; omega
theorem sym_get1 {A0 U V B : List Node} {c0 a : Nat} {x : Node} (hA : A0.length = a) (h : a + (c0 - a) = c0) (hx : U[c0 - a]? = some x) : (A0 ++ (U ++ V) ++ B)[c0]? = some x := by
  have hl := (List.getElem?_eq_some_iff.1 hx).1
  rw [List.append_assoc, List.append_assoc, List.getElem?_append_right (by rw [hA]; omega), List.getElem?_append_left (by rw [hA]; exact hl), hA]
  exact hx
theorem sym_get2 {A0 U V B : List Node} {k m pc : Nat} {y : Node} (hm : m = (A0 ++ U).length) (h : pc = m + k) (hy : V[k]? = some y) : (A0 ++ (U ++ V) ++ B)[pc]? = some y := by
  have hl := (List.getElem?_eq_some_iff.1 hy).1
  subst hm h
  rw [← List.append_assoc, List.append_assoc (A0 ++ U), List.getElem?_append_right (by omega), List.getElem?_append_left (by omega), ← hy]
  congr 1
  omega
/-- The last three steps of a merge: what each finds, what it leaves. -/
structure RestP (w0 : World) (base n c : Nat) (A : Option Addr) (A0 U V B : List Node) (a m b mid st en u v : Nat) : Prop where
  rot : ∀ W, SortSt w0 base A n c (A0 ++ (U ++ V) ++ B) W → st < m → m < en → Calls Try.prog 109 #[.slice A n c, .int .i64 st, .int .i64 m, .int .i64 en, cmpV] W (Sorted1 w0 base A n c (A0 ++ (U.take u ++ V.take v) ++ (U.drop u ++ V.drop v) ++ B))
  rotNo : ∀ W, SortSt w0 base A n c (A0 ++ (U ++ V) ++ B) W → ¬ (st < m ∧ m < en) → SortSt w0 base A n c (A0 ++ (U.take u ++ V.take v) ++ (U.drop u ++ V.drop v) ++ B) W
  left : ∀ W, SortSt w0 base A n c (A0 ++ (U.take u ++ V.take v) ++ (U.drop u ++ V.drop v) ++ B) W → a < st → st < mid → Calls Try.prog 101 #[.slice A n c, .int .i64 a, .int .i64 st, .int .i64 mid, cmpV] W (MergeRes w0 base A n c A0 (U.take u ++ V.take v) ((U.drop u ++ V.drop v) ++ B))
  leftNo : ¬ (a < st ∧ st < mid) → SrtN (U.take u ++ V.take v)
  right : ∀ W L, L.Perm (U.take u ++ V.take v) → SortSt w0 base A n c ((A0 ++ L) ++ (U.drop u ++ V.drop v) ++ B) W → mid < en → en < b → Calls Try.prog 101 #[.slice A n c, .int .i64 mid, .int .i64 en, .int .i64 b, cmpV] W (MergeRes w0 base A n c (A0 ++ L) (U.drop u ++ V.drop v) B)
  rightNo : ¬ (mid < en ∧ en < b) → SrtN (U.drop u ++ V.drop v)
theorem merge_rest (w0 : World) (base n c : Nat) (A : Option Addr) (hn : n ≤ 1000000) (N : Nat) (A0 U V B : List Node) (a m b mid st en u v lu lv : Nat)
    (ih : ∀ (A0 U V B : List Node) (a m b : Nat) (W : World), U.length + V.length ≤ N → A0.length = a → m = a + U.length → b = m + V.length → 0 < U.length → 0 < V.length → SrtN U → SrtN V → SortSt w0 base A n c (A0 ++ (U ++ V) ++ B) W →
      Calls Try.prog 101 #[.slice A n c, .int .i64 a, .int .i64 m, .int .i64 b, cmpV] W (MergeRes w0 base A n c A0 (U ++ V) B))
    (ha : A0.length = a) (htu : (U.take u).length = u) (htv : (V.take v).length = v) (hdu : (U.drop u).length = lu - u) (hdv : (V.drop v).length = lv - v) (hU : SrtN U) (hV : SrtN V)
    (hp : a + u = st ∧ mid = st + v ∧ m = st + (lu - u) ∧ en = m + v ∧ b = en + (lv - v) ∧ en = mid + (lu - u) ∧ u + v ≤ N ∧ (lu - u) + (lv - v) ≤ N) (_hh : ∀ x ∈ U.take u ++ V.take v, ∀ y ∈ U.drop u ++ V.drop v, leN x y) :
    RestP w0 base n c A A0 U V B a m b mid st en u v := by
  obtain ⟨p1, p2, p3, p4, p5, p6, p7, p8⟩ := hp
  have hUU : U.take u ++ U.drop u = U := List.take_append_drop _ _
  have hVV : V.take v ++ V.drop v = V := List.take_append_drop _ _
  have sU : SrtN (U.take u ++ U.drop u) := by rw [hUU]; exact hU
  have sV : SrtN (V.take v ++ V.drop v) := by rw [hVV]; exact hV
  have hall : A0 ++ (U ++ V) ++ B = A0 ++ U.take u ++ U.drop u ++ V.take v ++ (V.drop v ++ B) := by
    have h1 : U ++ V = (U.take u ++ U.drop u) ++ (V.take v ++ V.drop v) := by rw [hUU, hVV]
    rw [h1]
    simp only [List.append_assoc]
  refine ⟨fun W h h1 h2 => ?_, fun W h h1 => ?_, fun W h h1 h2 => ?_, fun h1 => ?_, fun W L hL h h1 h2 => ?_, fun h1 => ?_⟩
  · have hr := rotate_any w0 base n c A (A0 ++ U.take u) (U.drop u) (V.take v) (V.drop v ++ B) st m en cmpV W (by rw [List.length_append, ha, htu]; exact p1) (by rw [hdu]; exact p3) (by rw [htv]; exact p4) (by rw [hdu]; omega) (by rw [htv]; omega) hn (by rw [← hall]; exact h)
    have e : A0 ++ U.take u ++ V.take v ++ U.drop u ++ (V.drop v ++ B) = A0 ++ (U.take u ++ V.take v) ++ (U.drop u ++ V.drop v) ++ B := by simp only [List.append_assoc]
    rw [e] at hr
    exact hr
  · rw [hall] at h
    have e : A0 ++ U.take u ++ U.drop u ++ V.take v ++ (V.drop v ++ B) = A0 ++ (U.take u ++ V.take v) ++ (U.drop u ++ V.drop v) ++ B := by
      by_cases h2 : st < m
      · have h0 : V.take v = [] := List.length_eq_zero_iff.1 (by rw [htv]; omega)
        rw [h0]; simp only [List.append_assoc, List.append_nil]
      · have h0 : U.drop u = [] := List.length_eq_zero_iff.1 (by rw [hdu]; omega)
        rw [h0]; simp only [List.append_assoc, List.append_nil, List.nil_append]
    rw [e] at h
    exact h
  · exact ih A0 (U.take u) (V.take v) ((U.drop u ++ V.drop v) ++ B) a st mid W (by rw [htu, htv]; exact p7) ha (by rw [htu]; exact p1.symm) (by rw [htv]; exact p2) (by rw [htu]; omega) (by rw [htv]; omega) (srt_l sU) (srt_l sV) (by rw [← List.append_assoc]; exact h)
  · by_cases h2 : a < st
    · have h0 : V.take v = [] := List.length_eq_zero_iff.1 (by rw [htv]; omega)
      rw [h0, List.append_nil]; exact srt_l sU
    · have h0 : U.take u = [] := List.length_eq_zero_iff.1 (by rw [htu]; omega)
      rw [h0, List.nil_append]; exact srt_l sV
  · have hl := hL.length_eq
    rw [List.length_append, htu, htv] at hl
    exact ih (A0 ++ L) (U.drop u) (V.drop v) B mid en b W (by rw [hdu, hdv]; exact p8) (by rw [List.length_append, ha, hl]; omega) (by rw [hdu]; exact p6) (by rw [hdv]; exact p5) (by rw [hdu]; omega) (by rw [hdv]; omega) (srt_r sU) (srt_r sV) h
  · by_cases h2 : mid < en
    · have h0 : V.drop v = [] := List.length_eq_zero_iff.1 (by rw [hdv]; omega)
      rw [h0, List.append_nil]; exact srt_r sU
    · have h0 : U.drop u = [] := List.length_eq_zero_iff.1 (by rw [hdu]; omega)
      rw [h0, List.nil_append]; exact srt_r sV
set_option maxRecDepth 100000 in
set_option maxHeartbeats 16000000 in
theorem merge_step (w0 : World) (base n c : Nat) (A : Option Addr) (hn : n ≤ 1000000) (N : Nat)
    (ih : ∀ (A0 U V B : List Node) (a m b : Nat) (W : World), U.length + V.length ≤ N → A0.length = a → m = a + U.length → b = m + V.length → 0 < U.length → 0 < V.length → SrtN U → SrtN V → SortSt w0 base A n c (A0 ++ (U ++ V) ++ B) W →
      Calls Try.prog 101 #[.slice A n c, .int .i64 a, .int .i64 m, .int .i64 b, cmpV] W (MergeRes w0 base A n c A0 (U ++ V) B))
    (A0 U V B : List Node) (a m b : Nat) (W : World) (hN : U.length + V.length ≤ N + 1) (ha : A0.length = a) (hm : m = a + U.length) (hb : b = m + V.length) (hu : 0 < U.length) (hv : 0 < V.length) (hU : SrtN U) (hV : SrtN V) (h : SortSt w0 base A n c (A0 ++ (U ++ V) ++ B) W) :
    Calls Try.prog 101 #[.slice A n c, .int .i64 a, .int .i64 m, .int .i64 b, cmpV] W (MergeRes w0 base A n c A0 (U ++ V) B) := by
  by_cases hu1 : U.length = 1
  · obtain ⟨x, rfl⟩ := List.length_eq_one_iff.1 hu1
    exact merge_left w0 base n c A A0 V B x a m b W ha hm hb hn hV h
  by_cases hv1 : V.length = 1
  · obtain ⟨y, rfl⟩ := List.length_eq_one_iff.1 hv1
    exact merge_right w0 base n c A A0 U B y a m b W ha hm hb (by omega) hn hU (by simpa using h)
  have hlen := h.len
  simp only [List.length_append] at hlen
  obtain ⟨mid, hmid⟩ : ∃ q, (a + b) / 2 = q := ⟨_, rfl⟩
  obtain ⟨nn, hnn⟩ : ∃ q, mid + m = q := ⟨_, rfl⟩
  obtain ⟨pp, hpp⟩ : ∃ q, nn - 1 = q := ⟨_, rfl⟩
  obtain ⟨lu, hlu⟩ : ∃ l, U.length = l := ⟨_, rfl⟩
  obtain ⟨lv, hlv⟩ : ∃ l, V.length = l := ⟨_, rfl⟩
  rw [hlu] at hm hN hu hu1 hlen
  rw [hlv] at hb hN hv hv1 hlen
  have hF : SymF n a m b mid nn pp lu lv N := ⟨hn, by omega, hmid, by omega, by omega, by omega, hm, hb, hnn, hpp, hN⟩
  have hw : IntKind.i64.wrap ((m : Int) - a) = (lu : Int) ∧ IntKind.i64.wrap ((b : Int) - m) = (lv : Int) ∧ ((lu : Int) == 1) = false ∧ ((lv : Int) == 1) = false ∧ ¬ (lu : Int) = 1 ∧ ¬ (lv : Int) = 1 ∧ IntKind.i64.wrap ((a : Int) + b) = ((a + b : Nat) : Int) ∧ ((a : Int) + b) / 2 = (mid : Int) ∧ IntKind.i64.wrap ((mid : Int) + m) = (nn : Int) ∧ IntKind.i64.wrap ((nn : Int) - 1) = (pp : Int) :=
    ⟨by rw [IntKind.wrap_i64]; omega, by rw [IntKind.wrap_i64]; omega, beq_eq_false_iff_ne.2 (by omega), beq_eq_false_iff_ne.2 (by omega), by omega, by omega, half_sum a b (by omega), by omega, by rw [IntKind.wrap_i64]; omega, by rw [IntKind.wrap_i64]; omega⟩
  have bab : a + b ≤ 4000000 := by omega
  have HF := Lib.hid hF; have HW := Lib.hid hw
  have IH := Lib.hid ih; have H := Lib.hid h; have HA := Lib.hid ha; have HU := Lib.hid hU; have HV := Lib.hid hV; have HLu := Lib.hid hlu; have HLv := Lib.hid hlv
  have hmA : m = (A0 ++ U).length := by rw [List.length_append, HA.out, HLu.out]; exact hm
  have HmA := Lib.hid hmA
  clear ih h ha hm hb hU hV hN hlen hu hv hu1 hv1 hlu hlv hF hw hmid hnn hpp hmA
  unfold cmpV
  obtain ⟨wma, wbm, eu, ev, eu2, ev2, wab, hq, wnm, wp⟩ := HW.out
  go_enter Try.func101, Try.ntmps101
  go_upto_if 140 with (fail)
  clear wma wbm eu ev eu2 ev2 wab hq wnm bab
  go_cut [20, 21] from 138 to 147 (fun vi vj wx => ∃ s0 r0 : Nat, vi = .int .i64 s0 ∧ vj = .int .i64 r0 ∧ SymP U V a m b mid s0 r0 ∧ wx = W)
  case first =>
    by_cases hmm : mid < m
    · have hmi : (mid : Int) < m := by omega
      obtain ⟨s0, hs0⟩ : ∃ q, nn - b = q := ⟨_, rfl⟩
      have hP : SymP U V a m b mid s0 mid ∧ IntKind.i64.wrap ((nn : Int) - b) = (s0 : Int) := by
        obtain ⟨hn, hbn, hmid, hab, ham, hmb, hm, hb, hnn, hpp, hN⟩ := HF.out
        exact ⟨⟨by omega, by omega, by omega, by omega, by omega, .inr (by omega), .inr rfl⟩, by rw [IntKind.wrap_i64]; omega⟩
      obtain ⟨hP, wnb2⟩ := hP
      have HP := Lib.hid hP
      clear hP hs0
      go_wp2_with (fail)
      go_meet
      exact ⟨s0, mid, rfl, rfl, HP.out, rfl⟩
    · have hmi : ¬ (mid : Int) < m := by omega
      have hP : SymP U V a m b mid a m := by
        obtain ⟨hn, hbn, hmid, hab, ham, hmb, hm, hb, hnn, hpp, hN⟩ := HF.out
        exact ⟨by omega, by omega, by omega, by omega, by omega, .inl rfl, .inl rfl⟩
      have HP := Lib.hid hP
      clear hP
      go_wp2_with (fail)
      go_meet
      exact ⟨a, m, rfl, rfl, HP.out, rfl⟩
  case rest =>
    obtain ⟨s0, r0, rfl, rfl, hP, rfl⟩ := hcut
    have HP := Lib.hid hP
    clear hP
    go_wp2
    clear wp
    go_loopw [20, 21] (fun vi vj wr => ∃ st r : Nat, vi = .int .i64 st ∧ vj = .int .i64 r ∧ s0 ≤ st ∧ st ≤ r ∧ r ≤ r0 ∧ SortSt w0 base A n c (A0 ++ (U ++ V) ++ B) wr ∧ (st = s0 ∨ ∀ x y, U[st - 1 - a]? = some x → V[mid - st]? = some y → leN x y) ∧ (r = r0 ∨ ∀ x y, V[mid - 1 - r]? = some x → U[r - a]? = some y → pathL x < pathL y)) (fun vi vj _ => (intOf vj).toNat - (intOf vi).toNat)
    case atStart => exact ⟨s0, r0, rfl, rfl, Nat.le_refl _, HP.out.h2, Nat.le_refl _, H.out, .inl rfl, .inl rfl⟩
    case round =>
      clear H
      obtain ⟨st, r, rfl, rfl, hs0, hsr, hr0, hst, k1, k2⟩ := hrel
      have K1 := Lib.hid k1; have K2 := Lib.hid k2
      clear k1 k2
      by_cases hlt : st < r
      · have hki : (st : Int) < r := by omega
        obtain ⟨c0, hc0⟩ : ∃ q, (st + r) / 2 = q := ⟨_, rfl⟩
        obtain ⟨pc, hpc⟩ : ∃ q, pp - c0 = q := ⟨_, rfl⟩
        obtain ⟨hc1, hc2, wpc0, hpc2, hcn, hpn, hcl, hyl, hac, hac2, hpm, hq2, ex1, ex2, hcr, hsc, hsr4⟩ := sym_arith HF.out HP.out.h1 HP.out.h3 HP.out.h4 HP.out.h5 hs0 hlt hr0 hc0 hpc
        have wpc : IntKind.i64.wrap ((pp : Int) - c0) = (pc : Int) := by rw [wpc0]; exact wrap_small (by omega) (by omega)
        clear wpc0 hc0 hpc
        obtain ⟨x, hx⟩ : ∃ x, U[c0 - a]? = some x := ⟨_, List.getElem?_eq_getElem (by rw [HLu.out]; exact hcl)⟩
        obtain ⟨y, hy⟩ : ∃ y, V[mid - 1 - c0]? = some y := ⟨_, List.getElem?_eq_getElem (by rw [HLv.out]; exact hyl)⟩
        have g1 : (A0 ++ (U ++ V) ++ B)[c0]? = some x := sym_get1 HA.out hac2 hx
        have g2 : (A0 ++ (U ++ V) ++ B)[pc]? = some y := sym_get2 HmA.out hpm hy
        clear hcl hyl hac2 hpm
        obtain ⟨g, rfl⟩ : ∃ g, A = some ⟨g, 0, none⟩ := own_some hst.own (Nat.lt_of_le_of_lt (Nat.zero_le _) hcn)
        obtain ⟨x0, x1, x2⟩ := hst.cells g1
        obtain ⟨y0, y1, y2⟩ := hst.cells g2
        have hgl : g < wr.heap.size := (own_lt2 hst.own).2.1
        obtain ⟨d, hd⟩ : ∃ d, cmpN y x = d := ⟨_, rfl⟩
        have hc := cmp_any y x
        rw [hd] at hc
        have HC := Lib.hid hc; have HD := Lib.hid hd; have Hst := Lib.hid hst; have Hx := Lib.hid hx; have Hy := Lib.hid hy
        have wsr := half_sum st r hsr4
        have hcin : (c0 : Int) < n := Int.ofNat_lt.2 hcn
        have hpin : (pc : Int) < n := Int.ofNat_lt.2 hpn
        have HQ := Lib.hid (show s0 ≤ st ∧ st ≤ c0 ∧ c0 < r ∧ r ≤ r0 ∧ c0 + 1 ≤ r ∧ s0 ≤ c0 ∧ c0 + 1 - 1 - a = c0 - a ∧ mid - (c0 + 1) = mid - 1 - c0 from ⟨hs0, hc1, hc2, hr0, hcr, hsc, ex1, ex2⟩)
        clear hc hd hst hx hy g1 g2 hs0 hsr hr0 hc1 hc2 hcr hsc ex1 ex2 hpc2 hcn hpn hac hlt
        by_cases hlv : d < 0
        · have hdd : (!decide (d < 0)) = false := by simp [hlv]
          go_upto_region 35 with (fail)
          refine wp_region_ordB (none) [(0, true), (1, true), (2, true), (3, true), (4, true), (5, true), (6, true), (7, true), (8, true), (9, true), (10, true), (11, false), (12, true), (13, true)] (by kernel_rfl) (by kernel_rfl) fun hG0 => ?_
          repeat (first
            | (refine ord_skipB rfl (by rfl) ?_; simp only [Act.put, List.setIfInBounds_toArray, List.set_cons_zero, List.set_cons_succ])
            | (refine ord_qE rfl (by rfl) ?_; apply Exists.intro; refine ⟨fun w' hc' => ?_, ?_⟩; (focus (go_simp; (try go_bits); (try simp only [↓IntWalk.iteOmega]); with_reducible rfl)); simp only [Act.put, List.setIfInBounds_toArray, List.set_cons_zero, List.set_cons_succ]))
          refine ord_eB rfl fun K hK => ?_
          go_wp2_with (go_at_call 69; refine (HC.out _).mono ?_; rintro e w5 ⟨rfl, hg5⟩)
          have hG1 := grown_trans hG0 (hg5)
          refine hK.out _ _ hG1 ?_
          clear hK K
          repeat (first
            | (refine ord_skipB rfl (by rfl) ?_; simp only [Act.put, List.setIfInBounds_toArray, List.set_cons_zero, List.set_cons_succ])
            | (refine ord_qE rfl (by rfl) ?_; apply Exists.intro; refine ⟨fun w' hc' => ?_, ?_⟩; (focus (go_simp; (try go_bits); (try simp only [↓IntWalk.iteOmega]); with_reducible rfl)); simp only [Act.put, List.setIfInBounds_toArray, List.set_cons_zero, List.set_cons_succ]))
          refine ord_end ?_
          have hs5 := Hst.out.quiet hG1
          have HS5 := Lib.hid hs5
          clear hs5 x0 x1 x2 y0 y1 y2 hgl hG0 hG1
          go_wp2
          go_roundw
          case rel => exact ⟨st, c0, rfl, by go_num, HQ.out.1, HQ.out.2.1, Nat.le_of_lt (Nat.lt_of_lt_of_le HQ.out.2.2.1 HQ.out.2.2.2.1), HS5.out, K1.out, .inr fun x' y' hx' hy' => by
            rw [Hy.out] at hx'; rw [Hx.out] at hy'
            injection hx' with e1; injection hy' with e2
            rw [← e1, ← e2]
            exact lt_of_cmp HD.out hlv⟩
          case measure => have hq9 := HQ.out; simp [intOf] <;> omega
        · have hdd : (!decide (d < 0)) = true := by simp; omega
          go_upto_region 35 with (fail)
          refine wp_region_ordB (none) [(0, true), (1, true), (2, true), (3, true), (4, true), (5, true), (6, true), (7, true), (8, true), (9, true), (10, true), (11, false), (12, true), (13, true)] (by kernel_rfl) (by kernel_rfl) fun hG0 => ?_
          repeat (first
            | (refine ord_skipB rfl (by rfl) ?_; simp only [Act.put, List.setIfInBounds_toArray, List.set_cons_zero, List.set_cons_succ])
            | (refine ord_qE rfl (by rfl) ?_; apply Exists.intro; refine ⟨fun w' hc' => ?_, ?_⟩; (focus (go_simp; (try go_bits); (try simp only [↓IntWalk.iteOmega]); with_reducible rfl)); simp only [Act.put, List.setIfInBounds_toArray, List.set_cons_zero, List.set_cons_succ]))
          refine ord_eB rfl fun K hK => ?_
          go_wp2_with (go_at_call 69; refine (HC.out _).mono ?_; rintro e w5 ⟨rfl, hg5⟩)
          have hG1 := grown_trans hG0 (hg5)
          refine hK.out _ _ hG1 ?_
          clear hK K
          repeat (first
            | (refine ord_skipB rfl (by rfl) ?_; simp only [Act.put, List.setIfInBounds_toArray, List.set_cons_zero, List.set_cons_succ])
            | (refine ord_qE rfl (by rfl) ?_; apply Exists.intro; refine ⟨fun w' hc' => ?_, ?_⟩; (focus (go_simp; (try go_bits); (try simp only [↓IntWalk.iteOmega]); with_reducible rfl)); simp only [Act.put, List.setIfInBounds_toArray, List.set_cons_zero, List.set_cons_succ]))
          refine ord_end ?_
          have hs5 := Hst.out.quiet hG1
          have HS5 := Lib.hid hs5
          clear hs5 x0 x1 x2 y0 y1 y2 hgl hG0 hG1
          go_wp2
          go_roundw
          case rel => exact ⟨c0 + 1, r, by go_num, rfl, Nat.le_succ_of_le HQ.out.2.2.2.2.2.1, HQ.out.2.2.2.2.1, HQ.out.2.2.2.1, HS5.out, .inr fun x' y' hx' hy' => by
            rw [HQ.out.2.2.2.2.2.2.1, Hx.out] at hx'
            rw [HQ.out.2.2.2.2.2.2.2, Hy.out] at hy'
            injection hx' with e1; injection hy' with e2
            rw [← e1, ← e2]
            exact le_of_cmp HD.out (by omega), K2.out⟩
          case measure => have hq9 := HQ.out; simp [intOf] <;> omega
      · obtain rfl : st = r := by omega
        have hki : ¬ (st : Int) < st := by omega
        obtain ⟨u, hu⟩ : ∃ u, st - a = u := ⟨_, rfl⟩
        obtain ⟨v, hv⟩ : ∃ v, mid - st = v := ⟨_, rfl⟩
        obtain ⟨en, hen⟩ : ∃ q, nn - st = q := ⟨_, rfl⟩
        have hpa := sym_parts HF.out HP.out.h1 HP.out.h3 HP.out.h4 HP.out.h5 hs0 hr0 hu hv hen
        have wen : IntKind.i64.wrap ((nn : Int) - st) = (en : Int) := by rw [hpa.1]; exact wrap_small (by omega) (by have := hpa.2.1; omega)
        have hhalf := sym_halves HU.out HV.out (u := u) (v := v) (by rw [HLu.out]; exact hpa.2.2.1) (by rw [HLv.out]; exact hpa.2.2.2.1)
          (fun x y h0 hx hy => by
            obtain ⟨_, _, p1, p2, p3, p4, p5, p6, p7, p8, _, _⟩ := hpa
            rcases K1.out with k1 | k1
            · have hyl := (List.getElem?_eq_some_iff.1 hy).1
              rw [HLv.out] at hyl
              obtain ⟨hn, hbn, hmid, hab, ham, hmb, hm, hb, hnn, hpp, hN⟩ := HF.out
              rcases HP.out.h6 with h | h <;> omega
            · exact k1 x y (by rw [show st - 1 - a = u - 1 by omega]; exact hx) (by rw [hv]; exact hy))
          (fun x y h0 hx hy => by
            obtain ⟨_, _, p1, p2, p3, p4, p5, p6, p7, p8, _, _⟩ := hpa
            rcases K2.out with k2 | k2
            · have hyl := (List.getElem?_eq_some_iff.1 hy).1
              rw [HLu.out] at hyl
              obtain ⟨hn, hbn, hmid, hab, ham, hmb, hm, hb, hnn, hpp, hN⟩ := HF.out
              rcases HP.out.h7 with h | h <;> omega
            · exact leN_of_lt (k2 x y (by rw [show mid - 1 - st = v - 1 by omega]; exact hx) (by rw [hu]; exact hy)))
        have HHalf := Lib.hid hhalf; have Hst := Lib.hid hst; have HPa := Lib.hid hpa
        clear hhalf hst hpa hu hv hen hs0 hr0
        have htu : (U.take u).length = u := by rw [List.length_take, HLu.out]; have := HPa.out.2.2.1; omega
        have htv : (V.take v).length = v := by rw [List.length_take, HLv.out]; have := HPa.out.2.2.2.1; omega
        have hdu : (U.drop u).length = lu - u := by rw [List.length_drop, HLu.out]
        have hdv : (V.drop v).length = lv - v := by rw [List.length_drop, HLv.out]
        have Htu := Lib.hid htu; have Htv := Lib.hid htv; have Hdu := Lib.hid hdu; have Hdv := Lib.hid hdv
        clear htu htv hdu hdv
        have hrest := merge_rest w0 base n c A hn N A0 U V B a m b mid st en u v lu lv IH.out HA.out Htu.out Htv.out Hdu.out Hdv.out HU.out HV.out HPa.out.2.2.2.2 HHalf.out
        have HRest := Lib.hid hrest
        clear hrest
        go_upto_region 39 with (fail)
        go_cut [185] from 178 to 184 (fun q wx => q = .bool (decide (st < m ∧ m < en)) ∧ wx = wr)
        case first =>
          by_cases h1 : st < m
          · have i1 : (st : Int) < m := Int.ofNat_lt.2 h1
            by_cases h2 : m < en
            · have i2 : (m : Int) < en := Int.ofNat_lt.2 h2
              have hd9 : decide (st < m ∧ m < en) = true := decide_eq_true ⟨h1, h2⟩
              have HD9 := Lib.hid hd9; clear hd9
              go_wp2_with (fail)
              go_meet
              exact ⟨by rw [HD9.out], rfl⟩
            · have i2 : ¬ (m : Int) < en := fun h => h2 (Int.ofNat_lt.1 h)
              have hd9 : decide (st < m ∧ m < en) = false := decide_eq_false fun h => h2 h.2
              have HD9 := Lib.hid hd9; clear hd9
              go_wp2_with (fail)
              go_meet
              exact ⟨by rw [HD9.out], rfl⟩
          · have i1 : ¬ (st : Int) < m := fun h => h1 (Int.ofNat_lt.1 h)
            have hd9 : decide (st < m ∧ m < en) = false := decide_eq_false fun h => h1 h.1
            have HD9 := Lib.hid hd9; clear hd9
            go_wp2_with (fail)
            go_meet
            exact ⟨by rw [HD9.out], rfl⟩
        case rest =>
          obtain ⟨rfl, hwc⟩ := hcut
          rw [hwc]
          clear hwc
          obtain ⟨bb, hbb⟩ : ∃ q, decide (st < m ∧ m < en) = q := ⟨_, rfl⟩
          have HBB := Lib.hid hbb
          rw [hbb]
          clear hbb
          go_upto_if 185 with (fail)
          go_cut [24] from 186 to 191 (fun q wx => q = .int .i64 en ∧ SortSt w0 base A n c (A0 ++ (U.take u ++ V.take v) ++ (U.drop u ++ V.drop v) ++ B) wx)
          case first =>
            cases bb with
            | true =>
              have k1 := of_decide_eq_true HBB.out
              have HR := Lib.hid (HRest.out.rot wr Hst.out k1.1 k1.2)
              unfold cmpV at HR
              clear k1
              go_wp2_with (go_at_call 109; refine HR.out.mono ?_; rintro e w1 ⟨rfl, hs1⟩)
              go_meet
              exact ⟨rfl, hs1⟩
            | false =>
              have HR := Lib.hid (HRest.out.rotNo wr Hst.out (of_decide_eq_false HBB.out))
              go_wp2_with (fail)
              go_meet
              exact ⟨rfl, HR.out⟩
          case rest =>
            obtain ⟨rfl, hs1⟩ := hcut
            obtain ⟨W1, hW1⟩ : ∃ W, W = wc := ⟨_, rfl⟩
            rw [← hW1] at hs1 ⊢
            have HS1 := Lib.hid hs1
            clear hW1 hs1 Hst HBB
            go_upto_region 41 with (fail)
            go_cut [199] from 192 to 198 (fun q wx => q = .bool (decide (a < st ∧ st < mid)) ∧ wx = W1)
            case first =>
              by_cases h1 : a < st
              · have i1 : (a : Int) < st := Int.ofNat_lt.2 h1
                by_cases h2 : st < mid
                · have i2 : (st : Int) < mid := Int.ofNat_lt.2 h2
                  have hd9 : decide (a < st ∧ st < mid) = true := decide_eq_true ⟨h1, h2⟩
                  have HD9 := Lib.hid hd9; clear hd9
                  go_wp2_with (fail)
                  go_meet
                  exact ⟨by rw [HD9.out], rfl⟩
                · have i2 : ¬ (st : Int) < mid := fun h => h2 (Int.ofNat_lt.1 h)
                  have hd9 : decide (a < st ∧ st < mid) = false := decide_eq_false fun h => h2 h.2
                  have HD9 := Lib.hid hd9; clear hd9
                  go_wp2_with (fail)
                  go_meet
                  exact ⟨by rw [HD9.out], rfl⟩
              · have i1 : ¬ (a : Int) < st := fun h => h1 (Int.ofNat_lt.1 h)
                have hd9 : decide (a < st ∧ st < mid) = false := decide_eq_false fun h => h1 h.1
                have HD9 := Lib.hid hd9; clear hd9
                go_wp2_with (fail)
                go_meet
                exact ⟨by rw [HD9.out], rfl⟩
            case rest =>
              obtain ⟨rfl, hwc⟩ := hcut
              rw [hwc]
              clear hwc
              obtain ⟨bb2, hbb2⟩ : ∃ q, decide (a < st ∧ st < mid) = q := ⟨_, rfl⟩
              have HBB := Lib.hid hbb2
              rw [hbb2]
              clear hbb2
              go_upto_if 199 with (fail)
              go_cut [24] from 200 to 205 (fun q wx => q = .int .i64 en ∧ ∃ L : List Node, L.Perm (U.take u ++ V.take v) ∧ SrtN L ∧ SortSt w0 base A n c ((A0 ++ L) ++ (U.drop u ++ V.drop v) ++ B) wx)
              case first =>
                cases bb2 with
                | true =>
                  have k1 := of_decide_eq_true HBB.out
                  have HR := Lib.hid (HRest.out.left W1 HS1.out k1.1 k1.2)
                  unfold cmpV at HR
                  clear k1
                  go_wp2_with (go_at_call 101; refine HR.out.mono ?_; rintro e w2 ⟨rfl, L, hL1, hL2, hL3⟩)
                  go_meet
                  exact ⟨rfl, L, hL1, hL2, by rw [← List.append_assoc] at hL3; exact hL3⟩
                | false =>
                  have HR := Lib.hid (HRest.out.leftNo (of_decide_eq_false HBB.out))
                  go_wp2_with (fail)
                  go_meet
                  exact ⟨rfl, _, List.Perm.refl _, HR.out, HS1.out⟩
              case rest =>
                obtain ⟨rfl, L, hL1, hL2, hL3⟩ := hcut
                obtain ⟨W2, hW2⟩ : ∃ W, W = wc := ⟨_, rfl⟩
                rw [← hW2] at hL3 ⊢
                have HL1 := Lib.hid hL1; have HL2 := Lib.hid hL2; have HL3 := Lib.hid hL3
                clear hW2 hL1 hL2 hL3 HBB HS1
                go_upto_region 43 with (fail)
                go_cut [213] from 206 to 212 (fun q wx => q = .bool (decide (mid < en ∧ en < b)) ∧ wx = W2)
                case first =>
                  by_cases h1 : mid < en
                  · have i1 : (mid : Int) < en := Int.ofNat_lt.2 h1
                    by_cases h2 : en < b
                    · have i2 : (en : Int) < b := Int.ofNat_lt.2 h2
                      have hd9 : decide (mid < en ∧ en < b) = true := decide_eq_true ⟨h1, h2⟩
                      have HD9 := Lib.hid hd9; clear hd9
                      go_wp2_with (fail)
                      go_meet
                      exact ⟨by rw [HD9.out], rfl⟩
                    · have i2 : ¬ (en : Int) < b := fun h => h2 (Int.ofNat_lt.1 h)
                      have hd9 : decide (mid < en ∧ en < b) = false := decide_eq_false fun h => h2 h.2
                      have HD9 := Lib.hid hd9; clear hd9
                      go_wp2_with (fail)
                      go_meet
                      exact ⟨by rw [HD9.out], rfl⟩
                  · have i1 : ¬ (mid : Int) < en := fun h => h1 (Int.ofNat_lt.1 h)
                    have hd9 : decide (mid < en ∧ en < b) = false := decide_eq_false fun h => h1 h.1
                    have HD9 := Lib.hid hd9; clear hd9
                    go_wp2_with (fail)
                    go_meet
                    exact ⟨by rw [HD9.out], rfl⟩
                case rest =>
                  obtain ⟨rfl, hwc⟩ := hcut
                  rw [hwc]
                  clear hwc
                  obtain ⟨bb3, hbb3⟩ : ∃ q, decide (mid < en ∧ en < b) = q := ⟨_, rfl⟩
                  have HBB := Lib.hid hbb3
                  rw [hbb3]
                  clear hbb3
                  have hfin : ∀ (Q : List Node) (W' : World), Q.Perm (U.drop u ++ V.drop v) → SrtN Q → SortSt w0 base A n c ((A0 ++ L) ++ Q ++ B) W' → ∃ X : List Node, X.Perm (U ++ V) ∧ SrtN X ∧ SortSt w0 base A n c (A0 ++ X ++ B) W' := fun Q W' q1 q2 q3 =>
                    ⟨L ++ Q, (HL1.out.append q1).trans (perm_four U V u v), sym_join HHalf.out HL1.out q1 HL2.out q2, by rw [← List.append_assoc]; exact q3⟩
                  have HFin := Lib.hid hfin
                  clear hfin
                  cases bb3 with
                  | true =>
                    have k1 := of_decide_eq_true HBB.out
                    have HR := Lib.hid (HRest.out.right W2 L HL1.out HL3.out k1.1 k1.2)
                    unfold cmpV at HR
                    clear k1
                    go_wp2_with (go_at_call 101; refine HR.out.mono ?_; rintro e w3 ⟨rfl, Q, hQ1, hQ2, hQ3⟩)
                    go_end0
                    exact ⟨rfl, HFin.out Q _ hQ1 hQ2 hQ3⟩
                  | false =>
                    have HR := Lib.hid (HRest.out.rightNo (of_decide_eq_false HBB.out))
                    go_wp2
                    go_end0
                    exact ⟨rfl, HFin.out _ _ (List.Perm.refl _) HR.out HL3.out⟩
theorem merge_any (w0 : World) (base n c : Nat) (A : Option Addr) (hn : n ≤ 1000000) : ∀ (N : Nat) (A0 U V B : List Node) (a m b : Nat) (W : World), U.length + V.length ≤ N → A0.length = a → m = a + U.length → b = m + V.length → 0 < U.length → 0 < V.length → SrtN U → SrtN V → SortSt w0 base A n c (A0 ++ (U ++ V) ++ B) W →
    Calls Try.prog 101 #[.slice A n c, .int .i64 a, .int .i64 m, .int .i64 b, cmpV] W (MergeRes w0 base A n c A0 (U ++ V) B)
  | 0, A0, U, V, B, a, m, b, W, hN, ha, hm, hb, hu, hv, hU, hV, h => by omega
  | N + 1, A0, U, V, B, a, m, b, W, hN, ha, hm, hb, hu, hv, hU, hV, h => merge_step w0 base n c A hn N (merge_any w0 base n c A hn N) A0 U V B a m b W hN ha hm hb hu hv hU hV h
end Go.Proofs.Ytdjlchbgdehccaa
