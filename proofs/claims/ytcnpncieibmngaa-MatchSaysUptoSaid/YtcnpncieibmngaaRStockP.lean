/- shuntref10.Check and Find. MatchWhole in plain words: what a match that was not refused says of each file. -/
import Derived.Test.YtcnpncieibmngaaMatchF
import Derived.Test.YtcnpncieibmngaaMatchW
import Derived.Test.YtcnpncieibmngaaMatchE

namespace Go.Proofs.Ytcnpncieibmngaa
open Go.RowKit

set_option maxHeartbeats 1000000 in
theorem rstock_any (SA : Option Addr) (sn sc : Nat) (ss : List SC) (sd : List ByteArray) (w : World) (h : StockAt w SA sn ss sd) : Calls Try.prog 26 #[.slice SA sn sc] w (IntRes (stockE sd) w) := by
  have hsl := h.sl
  have hlen := h.len
  have hdl := h.dlen
  have hm := h.nm
  have HS := Lib.hid hsl; have Hn := Lib.hid hlen; have HD := Lib.hid h.dat; have Hdl := Lib.hid hdl
  clear hsl hlen h
  obtain ⟨R, hR⟩ : ∃ R, stockE sd = R := ⟨_, rfl⟩
  rw [hR]
  unfold stockE at hR
  rw [hdl] at hR
  clear hdl
  by_cases h1 : 65535 < sn
  · rw [if_pos h1] at hR
    have hi : (65535 : Int) < sn := by omega
    subst hR
    go_enter Try.func26, Try.ntmps26
    go_wp2
    go_ret
    exact ⟨rfl, Below.refl _ _⟩
  · rw [if_neg h1] at hR
    have hi : ¬ (65535 : Int) < sn := by omega
    have HR := Lib.hid hR; clear hR
    go_enter Try.func26, Try.ntmps26
    go_wp2
    go_loop [3, 4] (fun v i => ∃ (k sum : Nat), k ≤ sn ∧ i = .int .i64 k ∧ v = .int .i64 sum ∧ sum ≤ 65536 ∧ stockRun sd 65536 = stockRun (sd.drop k) (65536 - sum)) (fun _ i => sn - (intOf i).toNat)
    case atStart => exact ⟨0, 0, Nat.zero_le _, rfl, rfl, by omega, rfl⟩
    case round =>
      obtain ⟨k, sum, hk, rfl, rfl, hle, hrun⟩ := hrel
      by_cases hlt : k < sn
      · have hki : (k : Int) < sn := by omega
        obtain ⟨b, o, x, rfl, hbl, hx, hc⟩ := HS.out.get SC.len Hn.out hlt
        have c0 := hc 0 _ rfl
        simp only [Nat.add_zero, Nat.mul_one] at c0
        obtain ⟨d, hd⟩ : ∃ d, sd[k]? = some d := ⟨_, List.getElem?_eq_getElem (by rw [Hdl.out]; exact hlt)⟩
        have hdn := (HD.out k x d hx hd).1
        rw [drop_at' hd, stockRun, hdn] at hrun
        clear hc hx hd hdn
        by_cases g1 : 8192 < x.n
        · have gi : (8192 : Int) < x.n := by omega
          rw [if_pos (.inl g1)] at hrun
          have hr := HR.out
          rw [if_neg (by rw [hrun]; simp)] at hr
          subst hr
          clear hrun
          go_wp2
          go_ret
          exact ⟨rfl, Below.refl _ _⟩
        · have gi : ¬ (8192 : Int) < x.n := by omega
          by_cases g2 : 65536 - sum < x.n
          · have g3 : (65536 : Int) < (sum : Int) + x.n := by omega
            rw [if_pos (.inr g2)] at hrun
            have hr := HR.out
            rw [if_neg (by rw [hrun]; simp)] at hr
            subst hr
            clear hrun
            go_wp2
            go_ret
            exact ⟨rfl, Below.refl _ _⟩
          · have g3 : ¬ (65536 : Int) < (sum : Int) + x.n := by omega
            rw [if_neg (by rintro (h | h); exact g1 h; exact g2 h), Nat.sub_sub] at hrun
            have HRun := Lib.hid hrun; clear hrun
            go_wp2
            go_round
            case rel => exact ⟨k + 1, sum + x.n, by omega, by go_num, by go_num, by omega, HRun.out⟩
            case measure => simp [intOf]; omega
      · obtain rfl : k = sn := by omega
        have hki : ¬ (k : Int) < k := by omega
        rw [List.drop_of_length_le (by rw [Hdl.out]; exact Nat.le_refl _), stockRun] at hrun
        have hr := HR.out
        rw [if_pos hrun] at hr
        subst hr
        clear hrun
        go_wp2
        go_ret
        exact ⟨rfl, Below.refl _ _⟩
/-- The place of a content; -1: it is not there. -/
def findE (sd : List ByteArray) (b : ByteArray) : Int := ((stockAt sd b).map fun (k : Nat) => (k : Int)).getD (-1)
theorem findE_at {sd : List ByteArray} {b : ByteArray} {k : Nat} (h : sd[k]? = some b) (hno : ∀ j, j < k → sd[j]? ≠ some b) : findE sd b = k := by
  have hk : k < sd.length := (List.getElem?_eq_some_iff.1 h).1
  unfold findE stockAt
  cases hq : (List.range sd.length).find? fun k => decide (sd[k]? = some b) with
  | none => have := List.find?_eq_none.1 hq k (List.mem_range.2 hk); simp [h] at this
  | some j =>
    obtain ⟨k1, k2, k3⟩ := find_range_some hq
    have hj := of_decide_eq_true k2
    have : j = k := by
      rcases Nat.lt_trichotomy j k with e | e | e
      · exact absurd hj (hno j e)
      · exact e
      · exact absurd h (of_decide_eq_false (k3 k e))
    subst this
    rfl
theorem findE_no {sd : List ByteArray} {b : ByteArray} (h : ∀ j, j < sd.length → sd[j]? ≠ some b) : findE sd b = -1 := by
  unfold findE stockAt
  rw [List.find?_eq_none.2 fun j hj => by simpa using h j (List.mem_range.1 hj)]
  rfl
set_option maxHeartbeats 1000000 in
theorem rfind10_any (SA : Option Addr) (sn sc : Nat) (ss : List SC) (sd : List ByteArray) (A : Option Addr) (n c : Nat) (d : ByteArray) (w : World) (h : StockAt w SA sn ss sd) (hB : Sl w w.heap.size 1 A n (bytesC d)) (hn : d.size = n) :
    Calls Try.prog 27 #[.slice SA sn sc, .slice A n c] w (IntRes (findE sd d) w) := by
  have hsl := h.sl
  have hlen := h.len
  have hm := h.nm
  have HS := Lib.hid hsl; have Hn := Lib.hid hlen; have HD := Lib.hid h.dat; have Hdl := Lib.hid h.dlen; have HB := Lib.hid hB; have HN := Lib.hid hn
  clear hsl hlen h hB hn
  go_enter Try.func27, Try.ntmps27
  go_wp2
  go_loopw [5] (fun v wr => ∃ k : Nat, k ≤ sn ∧ v = .int .i64 k ∧ (∀ j, j < k → sd[j]? ≠ some d) ∧ Below w.heap.size w wr) (fun v _ => sn - (intOf v).toNat)
  case atStart => exact ⟨0, Nat.zero_le _, rfl, fun j hj => absurd hj (by omega), Below.refl _ _⟩
  case round =>
    obtain ⟨k, hk, rfl, hno, hb⟩ := hrel
    have HNo := Lib.hid hno; clear hno
    by_cases hlt : k < sn
    · have hki : (k : Int) < sn := by omega
      obtain ⟨xb, xo, x, rfl, hbl, hx, hc⟩ := (HS.out.below hb (Nat.le_refl _)).get SC.len Hn.out hlt
      have c0 := hc 0 _ rfl
      simp only [Nat.add_zero, Nat.mul_one] at c0
      obtain ⟨e, he⟩ : ∃ e, sd[k]? = some e := ⟨_, List.getElem?_eq_getElem (by rw [Hdl.out]; exact hlt)⟩
      obtain ⟨hen, hes⟩ := HD.out k x e hx he
      have SA' := Lib.hid (hes.below hb (Nat.le_refl _)); have NA' := Lib.hid hen
      have SB' := Lib.hid (HB.out.below hb (Nat.le_refl _))
      have hs := hb.size
      have hxw : xb < wr.heap.size := by omega
      have HE := Lib.hid he
      clear hc hx he hen hes
      go_upto_region 4 with (fail)
      by_cases hed : e = d
      · have h1 : (e.toList == d.toList) = true := by rw [hed]; simp
        have hfin := findE_at (HE.out.trans (by rw [hed])) HNo.out
        have HFin := Lib.hid hfin
        clear hfin hed
        refine wp_region_ordB (none) [(0, true), (1, true), (2, true), (3, true), (4, true), (5, true), (6, true), (7, true)] (by kernel_rfl) (by kernel_rfl) fun hG0 => ?_
        repeat (first
          | (refine ord_skipB rfl (by rfl) ?_; simp only [Act.put, List.setIfInBounds_toArray, List.set_cons_zero, List.set_cons_succ])
          | (first | (refine ord_qH rfl (by rfl) (fun w' hh => exec_conv rfl rfl (SA'.out.held hs rfl hh) NA'.out) ?_; simp only [Act.put, List.setIfInBounds_toArray, List.set_cons_zero, List.set_cons_succ]) | (refine ord_qH rfl (by rfl) (fun w' hh => exec_conv rfl rfl (SB'.out.held hs rfl hh) HN.out) ?_; simp only [Act.put, List.setIfInBounds_toArray, List.set_cons_zero, List.set_cons_succ]))
          | (refine ord_qE rfl (by rfl) ?_; apply Exists.intro; refine ⟨fun w' hc' => ?_, ?_⟩; (focus (go_simp; (try go_bits); (try simp only [↓IntWalk.iteOmega]); with_reducible rfl)); simp only [Act.put, List.setIfInBounds_toArray, List.set_cons_zero, List.set_cons_succ]))
        refine ord_end ?_
        clear c0
        go_wp2
        go_ret
        exact ⟨by rw [HFin.out]; rfl, hb.drew⟩
      · have h1 : (e.toList == d.toList) = false := by rw [beq_eq_false_iff_ne]; exact fun h => hed (toList_inj h)
        have HNo2 := Lib.hid (show ∀ j, j < k + 1 → sd[j]? ≠ some d from fun j hj => by
          by_cases ej : j = k
          · subst ej; rw [HE.out]; exact fun h => hed (Option.some.inj h)
          · exact HNo.out j (by omega))
        clear hed
        refine wp_region_ordB (none) [(0, true), (1, true), (2, true), (3, true), (4, true), (5, true), (6, true), (7, true)] (by kernel_rfl) (by kernel_rfl) fun hG0 => ?_
        repeat (first
          | (refine ord_skipB rfl (by rfl) ?_; simp only [Act.put, List.setIfInBounds_toArray, List.set_cons_zero, List.set_cons_succ])
          | (first | (refine ord_qH rfl (by rfl) (fun w' hh => exec_conv rfl rfl (SA'.out.held hs rfl hh) NA'.out) ?_; simp only [Act.put, List.setIfInBounds_toArray, List.set_cons_zero, List.set_cons_succ]) | (refine ord_qH rfl (by rfl) (fun w' hh => exec_conv rfl rfl (SB'.out.held hs rfl hh) HN.out) ?_; simp only [Act.put, List.setIfInBounds_toArray, List.set_cons_zero, List.set_cons_succ]))
          | (refine ord_qE rfl (by rfl) ?_; apply Exists.intro; refine ⟨fun w' hc' => ?_, ?_⟩; (focus (go_simp; (try go_bits); (try simp only [↓IntWalk.iteOmega]); with_reducible rfl)); simp only [Act.put, List.setIfInBounds_toArray, List.set_cons_zero, List.set_cons_succ]))
        refine ord_end ?_
        clear c0
        go_wp2
        go_roundw
        case rel => exact ⟨k + 1, by omega, by go_num, HNo2.out, hb.drew⟩
        case measure => simp [intOf]; omega
    · obtain rfl : k = sn := by omega
      have hki : ¬ (k : Int) < k := by omega
      have HFin := Lib.hid (findE_no (sd := sd) (b := d) fun j hj => HNo.out j (by rw [← Hdl.out]; exact hj))
      go_wp2
      go_ret
      exact ⟨by rw [HFin.out]; rfl, hb⟩
end Go.Proofs.Ytcnpncieibmngaa

namespace Go.Proofs.Ytcnpncieibmngaa
open Go.RowKit

/-- Does a content lack? -/
def lackB (sd : List ByteArray) (b : ByteArray) : Bool := decide (findE sd b < 0)
theorem lackB_iff (sd : List ByteArray) (b : ByteArray) : lackB sd b = true ↔ stockAt sd b = none := by
  unfold lackB findE
  cases stockAt sd b with
  | none => simp
  | some k => simp
/-- What is said of a match behind right trees and a right stock. -/
theorem whole_case {s t : TV} {ds es sd : List ByteArray} (c : checksE s t = 0) (c3 : stockE sd = 0) :
    ((freshL ds es).any (lackB sd) = true ∧ matchE s t ds es sd = 32) ∨ ((freshL ds es).any (lackB sd) = false ∧ matchE s t ds es sd = 0 ∧ DoneP ds es sd es.length (matchL s t ds es sd)) := by
  have c1 : checkE s = 0 := by
    unfold checksE at c
    by_cases e : checkE s = 0
    · exact e
    · rw [if_pos e] at c; exact c
  have c2 : checkE t = 0 := by
    unfold checksE at c
    rw [if_neg (by simp [c1])] at c
    exact c
  unfold matchE matchL
  rw [if_neg (by simp [c1]), if_neg (by simp [c2]), if_neg (by simp [c3]), if_neg (by simp [c1]), if_neg (by simp [c2]), if_neg (by simp [c3])]
  cases hu : upto3 s.nodes t.nodes ds es sd es.length with
  | none =>
    left
    refine ⟨?_, rfl⟩
    obtain ⟨i, b, hi, hb, hf, hn⟩ := fail3 s.nodes t.nodes ds es sd es.length (Nat.le_refl _) hu
    rw [List.any_eq_true]
    refine ⟨b, ?_, (lackB_iff sd b).2 hn⟩
    obtain ⟨b', hb', h1, h2⟩ := hf
    rw [hb] at hb'
    injection hb' with hb'
    subst hb'
    exact (freshRun_mem ds es b).2 ⟨List.mem_of_getElem? hb, h1⟩
  | some o =>
    right
    have hD := done3 s.nodes t.nodes ds es sd es.length o (Nat.le_refl _) hu
    refine ⟨?_, rfl, hD⟩
    rw [List.any_eq_false]
    intro b hb hl
    have hn := (lackB_iff sd b).1 hl
    obtain ⟨i, hf, hi⟩ := fresh_first hb
    have hil := (List.getElem?_eq_some_iff.1 hi).1
    have hk := (new_fresh hD hil).2 hf
    rcases hD.done i hil hil with ⟨g, e, _⟩ | ⟨k, e, _⟩ | ⟨k, b', e, e2, e3, _⟩
    · rw [kind_some e] at hk; cases hk
    · rw [kind_some e] at hk; cases hk
    · rw [hi] at e2
      injection e2 with e2
      subst e2
      rw [hn] at e3
      cases e3
/-- Is file g kept by one of the first i? -/
def usedB (o : List Src) (i g : Nat) : Bool := (List.range i).any fun j => decide ((o[j]?).map (fun x => (x.kind, x.file)) = some (1, (g : Int)))
theorem usedB_0 (o : List Src) (g : Nat) : usedB o 0 g = false := rfl
theorem usedB_succ (o : List Src) (i g : Nat) : usedB o (i + 1) g = (usedB o i g || decide ((o[i]?).map (fun x => (x.kind, x.file)) = some (1, (g : Int)))) := by
  unfold usedB
  rw [List.range_succ, List.any_append]
  simp
def boolL (b : Bool) : List Value := [.bool b]
def usedL (o : List Src) (i m : Nat) : List Bool := (List.range m).map (usedB o i)
theorem usedL_get {o : List Src} {i m g : Nat} (h : g < m) : (usedL o i m)[g]? = some (usedB o i g) := by simp [usedL, h]
theorem usedL_same {o : List Src} {i m : Nat} {x : Src} (hx : o[i]? = some x) (hk : x.kind ≠ 1) : usedL o (i + 1) m = usedL o i m := by
  unfold usedL
  refine List.map_congr_left fun g _ => ?_
  rw [usedB_succ, hx]
  simp [hk]
theorem usedL_set {o : List Src} {i m g : Nat} (hx : o[i]? = some (keepS g)) : (usedL o i m).set g true = usedL o (i + 1) m := by
  apply List.ext_getElem?
  intro j
  rw [List.getElem?_set]
  by_cases e : g = j
  · subst e
    by_cases h : g < m
    · rw [if_pos rfl, if_pos (by simpa [usedL] using h), usedL_get h, usedB_succ, hx]
      simp [keepS]
    · rw [if_pos rfl, if_neg (by simpa [usedL] using h), List.getElem?_eq_none (by simp [usedL]; omega)]
  · rw [if_neg e]
    by_cases h : j < m
    · rw [usedL_get h, usedL_get h, usedB_succ, hx]
      have : ¬ (g : Int) = j := by omega
      simp [keepS, this]
    · rw [List.getElem?_eq_none (by simp [usedL]; omega), List.getElem?_eq_none (by simp [usedL]; omega)]
theorem used_no {ds es sd : List ByteArray} {o : List Src} (hD : DoneP ds es sd es.length o) {i g : Nat} (hx : o[i]? = some (keepS g)) : usedB o i g = false := by
  unfold usedB
  rw [List.any_eq_false]
  intro j hj
  rw [List.mem_range] at hj
  simp only [decide_eq_true_eq]
  intro h
  have hi : i < es.length := by rw [← hD.len]; exact (List.getElem?_eq_some_iff.1 hx).1
  have hjl : j < es.length := by omega
  have hjo : ∃ y, o[j]? = some y := ⟨_, List.getElem?_eq_getElem (by rw [hD.len]; exact hjl)⟩
  obtain ⟨y, hy⟩ := hjo
  rw [hy] at h
  simp only [Option.map_some, Option.some.injEq, Prod.mk.injEq] at h
  rcases hD.done j hjl hjl with ⟨g', e, _⟩ | ⟨k, e, _⟩ | ⟨k, b', e, _⟩
  · rw [hy] at e
    injection e with e
    have : g' = g := by have h2 := h.2; rw [e] at h2; simp only [keepS] at h2; omega
    subst this
    rw [e] at hy
    have := hD.inj j i g' hy hx
    omega
  · rw [hy] at e; injection e with e; rw [e] at h; simp [copyS] at h
  · rw [hy] at e; injection e with e; rw [e] at h; simp [newS] at h
/-- How many of the first i are new. -/
def newN (o : List Src) (i : Nat) : Nat := ((List.range i).filter fun j => decide (kindAt o j = 3)).length
theorem newN_succ (o : List Src) (i : Nat) : newN o (i + 1) = newN o i + if kindAt o i = 3 then 1 else 0 := by
  unfold newN
  rw [List.range_succ, List.filter_append, List.length_append]
  by_cases h : kindAt o i = 3 <;> simp [h]
theorem newN_le (o : List Src) (i : Nat) : newN o i ≤ i := by
  unfold newN
  have := List.length_filter_le (fun j => decide (kindAt o j = 3)) (List.range i)
  simpa using this
theorem newN_all {ds es sd : List ByteArray} {o : List Src} (hD : DoneP ds es sd es.length o) : newN o es.length = (freshL ds es).length := by
  have h := fresh_count ds (fun j => decide (kindAt o j = 3)) es.length es (Nat.le_refl _) fun i hi => by
    rw [decide_eq_true_eq]
    exact new_fresh hD hi
  rw [List.take_of_length_le (Nat.le_refl _)] at h
  exact h
end Go.Proofs.Ytcnpncieibmngaa
