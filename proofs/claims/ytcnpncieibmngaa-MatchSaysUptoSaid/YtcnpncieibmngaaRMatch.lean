/- shuntref11.Match, walked: it says what matchE and matchL say. -/
import Derived.Test.YtcnpncieibmngaaRMatch0
namespace Go.Proofs.Ytcnpncieibmngaa
open Go.RowKit

theorem upto3_none {ns nt : List Node} {ds es sd : List ByteArray} {n : Nat} (h : upto3 ns nt ds es sd n = none) : ∀ {m : Nat}, n ≤ m → upto3 ns nt ds es sd m = none
  | 0, hm => by
    have : n = 0 := by omega
    subst this; exact h
  | m + 1, hm => by
    by_cases e : n = m + 1
    · subst e; exact h
    · rw [upto3, upto3_none h (m := m) (by omega)]
/-- What a search for a file of a kind has found. -/
def SrK (es : List ByteArray) (o : List Src) (b : ByteArray) (k : Int) (g : Nat) (v : Value) : Prop :=
  ∃ F : Option Nat, v = .int .i64 (optI F) ∧ (∀ q, F = some q → ofKind es k o b = some q) ∧ (F = none → ∀ j, j < g → es[j]? = some b → kindAt o j ≠ k)
def SrK2 (es : List ByteArray) (o : List Src) (b : ByteArray) (g : Nat) (v : Value) : Prop :=
  ∃ G : Option Nat, v = .int .i64 (optI G) ∧ (∀ q, G = some q → srcOf es o b = some q) ∧ (G = none → ofKind es 1 o b = none ∧ ∀ j, j < g → es[j]? = some b → kindAt o j ≠ 3)
theorem ofKind_at {es : List ByteArray} {k : Int} {o : List Src} {b : ByteArray} {g : Nat} (hb : es[g]? = some b) (hk : kindAt o g = k) (hno : ∀ j, j < g → es[j]? = some b → kindAt o j ≠ k) : ofKind es k o b = some g := by
  have hg : g < es.length := (List.getElem?_eq_some_iff.1 hb).1
  unfold ofKind
  cases hq : (List.range es.length).find? fun g => decide (es[g]? = some b) && decide (kindAt o g = k) with
  | none => have := List.find?_eq_none.1 hq g (List.mem_range.2 hg); simp [hb, hk] at this
  | some j =>
    obtain ⟨k1, k2, k3⟩ := find_range_some hq
    rw [Bool.and_eq_true, decide_eq_true_eq, decide_eq_true_eq] at k2
    rcases Nat.lt_trichotomy j g with e | e | e
    · exact absurd k2.2 (hno j e k2.1)
    · rw [e]
    · have := k3 g e; simp [hb, hk] at this
set_option maxRecDepth 100000 in
set_option maxHeartbeats 4000000 in
theorem rmatch_bad (s t : TV) (SA : Option Addr) (sn sc : Nat) (ss : List SC) (sd : List ByteArray) (w : World) (hs : TreeAt w s) (ht : TreeAt w t) (hS : StockAt w SA sn ss sd) (E : Int) (hE : (if checkE s ≠ 0 then checkE s else if checkE t ≠ 0 then checkE t else stockE sd) = E) (h0 : E ≠ 0) :
    Calls Try.prog 24 #[s.val, t.val, .slice SA sn sc] w (MatchRes E [] w) := by
  have hc1 := fun W (h : TreeAt W s) => rcheck_any s W h
  have hc2 := fun W (h : TreeAt W t) => rcheck_any t W h
  have hc3 := fun W (h : StockAt W SA sn ss sd) => rstock_any SA sn sc ss sd W h
  obtain ⟨C1, h1⟩ : ∃ C, checkE s = C := ⟨_, rfl⟩
  obtain ⟨C2, h2⟩ : ∃ C, checkE t = C := ⟨_, rfl⟩
  obtain ⟨C3, h3⟩ : ∃ C, stockE sd = C := ⟨_, rfl⟩
  rw [h1, h2, h3] at hE
  rw [h1] at hc1; rw [h2] at hc2; rw [h3] at hc3
  have HS := Lib.hid hs; have HT := Lib.hid ht; have HK := Lib.hid hS
  clear hs ht hS h1 h2 h3
  unfold TV.val at hc1 hc2 ⊢
  have HC1 := Lib.hid hc1; have HC2 := Lib.hid hc2; have HC3 := Lib.hid hc3
  clear hc1 hc2 hc3
  have hB1 := (Blk.new w 25 #[.slice s.NA s.nn s.nc, .slice s.FA s.fn s.fc]).alloc (.cells #[.slice t.NA t.nn t.nc, .slice t.FA t.fn t.fc] 25)
  have hB2 := Blk.new (w.alloc (.cells #[.slice s.NA s.nn s.nc, .slice s.FA s.fn s.fc] 25)) 25 #[.slice t.NA t.nn t.nc, .slice t.FA t.fn t.fc]
  have hb := ((Below.refl w.heap.size w).alloc (Nat.le_refl _) (.cells #[.slice s.NA s.nn s.nc, .slice s.FA s.fn s.fc] 25)).alloc (by simp) (.cells #[.slice t.NA t.nn t.nc, .slice t.FA t.fn t.fc] 25)
  simp only [World.size_alloc] at hB2
  have b0 := hB1.cell 0; have b1 := hB1.cell 1; have t0 := hB2.cell 0; have t1 := hB2.cell 1
  have hBl2 := hB2.lt
  have hne := bne_iff_ne.2 h0
  go_enter Try.func24, Try.ntmps24
  go_upto_region 2 with (go_at_call 11; refine (HC1.out _ (HS.out.keep hb)).mono ?_; rintro e w1 ⟨rfl, hb1⟩; replace hB2 := hB2.below hb1 hBl2; replace hb := hb.trans (hb1.mono hb.size))
  have t0 := hB2.cell 0; have t1 := hB2.cell 1
  have hBl2 := hB2.lt
  by_cases e1 : C1 = 0
  case neg =>
    have f1 : (C1 == 0) = false := beq_eq_false_iff_ne.2 e1
    rw [if_pos e1] at hE
    subst hE
    have HE := Lib.hid e1; have H0 := Lib.hid h0; clear e1 h0
    go_wp2
    go_ret2
    exact ⟨none, 0, 0, rfl, rfl, ⟨rfl, fun h => absurd h (by omega)⟩, hb⟩
  rw [if_neg (by simp [e1])] at hE
  have f1 : (C1 == 0) = true := beq_iff_eq.2 e1
  subst e1
  go_upto_region 4 with (go_at_call 11; refine (HC2.out _ (HT.out.keep hb)).mono ?_; rintro e w2 ⟨rfl, hb2⟩; replace hb := hb.trans (hb2.mono hb.size))
  by_cases e2 : C2 = 0
  case neg =>
    have f2 : (C2 == 0) = false := beq_eq_false_iff_ne.2 e2
    rw [if_pos e2] at hE
    subst hE
    have HE := Lib.hid e2; have H0 := Lib.hid h0; clear e2 h0
    go_wp2
    go_ret2
    exact ⟨none, 0, 0, rfl, rfl, ⟨rfl, fun h => absurd h (by omega)⟩, hb⟩
  rw [if_neg (by simp [e2])] at hE
  have f2 : (C2 == 0) = true := beq_iff_eq.2 e2
  subst e2
  subst hE
  have H0 := Lib.hid h0; clear h0
  go_upto_region 6 with (go_at_call 26; refine (HC3.out _ (HK.out.keep hb)).mono ?_; rintro e w3 ⟨rfl, hb3⟩; replace hb := hb.trans (hb3.mono hb.size))
  go_wp2
  go_ret2
  exact ⟨none, 0, 0, rfl, rfl, ⟨rfl, fun h => absurd h (by omega)⟩, hb⟩
set_option maxRecDepth 100000 in
set_option maxHeartbeats 400000000 in
theorem rmatch_main (s t : TV) (ds es : List ByteArray) (SA : Option Addr) (sn sc : Nat) (ss : List SC) (sd : List ByteArray) (w : World) (hs : TreeD w s ds) (ht : TreeD w t es) (hS : StockAt w SA sn ss sd) (c1 : checkE s = 0) (c2 : checkE t = 0) (c3 : stockE sd = 0) :
    Calls Try.prog 24 #[s.val, t.val, .slice SA sn sc] w (MatchRes (matchE s t ds es sd) (matchL s t ds es sd) w) := by
  have hc1 := fun W (h : TreeAt W s) => rcheck_any s W h
  have hc2 := fun W (h : TreeAt W t) => rcheck_any t W h
  have hc3 := fun W (h : StockAt W SA sn ss sd) => rstock_any SA sn sc ss sd W h
  rw [c1] at hc1; rw [c2] at hc2; rw [c3] at hc3
  have gs := good_of_loose (check_loose c1)
  have gt := good_of_loose (check_loose c2)
  have hsfn := gs.fn; have htfn := gt.fn
  have hel : es.length = t.fn := by rw [ht.dat.len, ht.tree.fl]
  have hdl : ds.length = s.fn := by rw [hs.dat.len, hs.tree.fl]
  have hnam := fun f (hf : f < t.fn) tk TA tc W (h1 : TreeD W s ds) (h2 : TreeD W t es) h3 => named_any s t ds es tk f hf TA tc W h1 h2 gs gt h3
  have hali := fun f (hf : f < t.fn) tk TA tc W (h1 : TreeD W s ds) (h2 : TreeD W t es) h3 => alike_any s t ds es tk f hf TA tc W h1 h2 h3
  have hME : matchE s t ds es sd = match upto3 s.nodes t.nodes ds es sd es.length with | some _ => 0 | none => 32 := by
    unfold matchE
    rw [if_neg (by simp [c1]), if_neg (by simp [c2]), if_neg (by simp [c3])]
    cases upto3 s.nodes t.nodes ds es sd es.length <;> rfl
  have hML : matchL s t ds es sd = match upto3 s.nodes t.nodes ds es sd es.length with | some o => o | none => [] := by
    unfold matchL
    rw [if_neg (by simp [c1]), if_neg (by simp [c2]), if_neg (by simp [c3])]
    cases upto3 s.nodes t.nodes ds es sd es.length <;> rfl
  obtain ⟨E, hE⟩ : ∃ E, matchE s t ds es sd = E := ⟨_, rfl⟩
  obtain ⟨L, hL⟩ : ∃ L, matchL s t ds es sd = L := ⟨_, rfl⟩
  rw [hE] at hME ⊢
  rw [hL] at hML ⊢
  have HME := Lib.hid hME; have HML := Lib.hid hML; have Gs := Lib.hid gs; have Gt := Lib.hid gt; have HEl := Lib.hid hel; have HDl := Lib.hid hdl
  have HS := Lib.hid hs; have HT := Lib.hid ht; have HK := Lib.hid hS
  clear hE hL hME hML gs gt hel hdl hs ht hS c1 c2 c3
  unfold TV.val at hc1 hc2 hnam hali ⊢
  have HC1 := Lib.hid hc1; have HC2 := Lib.hid hc2; have HC3 := Lib.hid hc3; have HNam := Lib.hid hnam; have HAli := Lib.hid hali
  clear hc1 hc2 hc3 hnam hali
  have hB1 := (Blk.new w 25 #[.slice s.NA s.nn s.nc, .slice s.FA s.fn s.fc]).alloc (.cells #[.slice t.NA t.nn t.nc, .slice t.FA t.fn t.fc] 25)
  have hB2 := Blk.new (w.alloc (.cells #[.slice s.NA s.nn s.nc, .slice s.FA s.fn s.fc] 25)) 25 #[.slice t.NA t.nn t.nc, .slice t.FA t.fn t.fc]
  have hb := ((Below.refl w.heap.size w).alloc (Nat.le_refl _) (.cells #[.slice s.NA s.nn s.nc, .slice s.FA s.fn s.fc] 25)).alloc (by simp) (.cells #[.slice t.NA t.nn t.nc, .slice t.FA t.fn t.fc] 25)
  simp only [World.size_alloc] at hB2
  have b0 := hB1.cell 0; have b1 := hB1.cell 1; have t0 := hB2.cell 0; have t1 := hB2.cell 1
  have hBl1 := hB1.lt; have hBl2 := hB2.lt
  have tok1 : True := trivial
  go_enter Try.func24, Try.ntmps24
  go_upto_region 8 with (first | (have _t := tok1; go_at_call 11; refine (HC1.out _ (HS.out.tree.keep hb)).mono ?_; rintro e w1 ⟨rfl, hb1⟩; replace hB1 := hB1.below hb1 hBl1; replace hB2 := hB2.below hb1 hBl2; replace hb := hb.trans (hb1.mono hb.size); have t0 := hB2.cell 0; have t1 := hB2.cell 1; clear tok1 _t) | (go_at_call 11; refine (HC2.out _ (HT.out.tree.keep hb)).mono ?_; rintro e w2 ⟨rfl, hb2⟩; replace hB1 := hB1.below hb2 hB1.lt; replace hB2 := hB2.below hb2 hB2.lt; replace hb := hb.trans (hb2.mono hb.size)) | (go_at_call 26; refine (HC3.out _ (HK.out.keep hb)).mono ?_; rintro e w3 ⟨rfl, hb3⟩; replace hB1 := hB1.below hb3 hB1.lt; replace hB2 := hB2.below hb3 hB2.lt; replace hb := hb.trans (hb3.mono hb.size)))
  clear b0 b1 t0 t1 hb1 hb2 hb3 hBl1
  have t1 := hB2.cell 1
  have hbase : w.heap.size + 1 < w3.heap.size := hB2.lt
  go_upto_region 9 with (refine wpList_make_zero rfl _ _ rfl Try.underlying29 (z := .agg #[.int .i64 0, .int .i64 0, .int .i64 0]) (sz := 3) (by_ := 24) (by kernel_rfl) rfl (by omega) Src.list noS rfl (n := t.fn) rfl rfl (by omega) (by unfold maxLen; omega) (Nat.le_refl _) ?_; intro w4 ho4 hg4)
  obtain ⟨og, hog⟩ : ∃ g, w3.heap.size = g := ⟨_, rfl⟩
  rw [hog] at ho4 hbase ⊢
  have hB14 := hB1.grown hg4 (by simp); have hB24 := hB2.grown hg4 (by simp)
  have hb4 := hb.trans (below_grown hg4 hb.size (fun g e => by cases e))
  have hog4 : og ≤ w4.heap.size := by rw [← hog]; exact hg4.size
  clear t1 hog hg4 hB1 hB2 hb
  have b1 := hB14.cell 1
  go_upto_region 10 with (refine wpList_make_zero (base := og) rfl _ _ rfl Try.underlying62 (z := .bool false) (sz := 1) (by_ := 1) (by kernel_rfl) rfl (by omega) boolL false rfl (n := s.fn) rfl rfl (by omega) (by unfold maxLen; omega) hog4 ?_; intro w5 ho5 hg5)
  obtain ⟨ug, hug⟩ : ∃ g, w4.heap.size = g := ⟨_, rfl⟩
  rw [hug] at ho5 ⊢
  have H0 : RM w s t og og ug (inSt s.nodes t.nodes ds es 1 0).1 (inSt s.nodes t.nodes ds es 1 0).2 w5 :=
    ⟨by show w5.ownsRow og _ 3 _ t.fn ((List.replicate es.length noS).flatMap Src.list); rw [HEl.out]; exact own_keep ho4 fun g o e => hg5.block g (own_lt2 (by rw [← e]; exact ho4)).2.1 (by simp),
      by
        have e : takenL (inSt s.nodes t.nodes ds es 1 0).2 s.fn = List.replicate s.fn false := by
          unfold takenL
          apply List.ext_getElem?
          intro j
          by_cases h : j < s.fn
          · simp [h, inSt, upto1]
          · simp [h]
        rw [e]; exact ho5,
      hB14.grown hg5 (by simp), hB24.grown hg5 (by simp), hb4.trans (below_grown hg5 hb4.size (fun g e => by cases e))⟩
  have H0' := Lib.hid H0
  clear H0 b1 hug ho4 ho5 hg5 hB14 hB24 hb4 hog4 hBl2
  go_wp2
  go_loopw [11] (fun v wr => ∃ p : Nat, 1 ≤ p ∧ p ≤ 3 ∧ v = .int .i64 p ∧ RM w s t og og ug (if p = 3 then (upto2 s.nodes t.nodes ds es es.length) else inSt s.nodes t.nodes ds es p 0).1 (if p = 3 then (upto2 s.nodes t.nodes ds es es.length) else inSt s.nodes t.nodes ds es p 0).2 wr) (fun v _ => 3 - (intOf v).toNat)
  case atStart => exact ⟨1, by omega, by omega, rfl, H0'.out⟩
  case round =>
    clear H0'
    obtain ⟨p, hp1, hp3, rfl, hR⟩ := hrel
    by_cases hp : p = 3
    · rw [if_pos hp] at hR
      have hpi : ¬ (p : Int) ≤ 2 := by omega
      clear hp3 hp1
      have HP3 := Lib.hid hp; clear hp
      obtain ⟨tk2, htk2⟩ : ∃ tk2, (upto2 s.nodes t.nodes ds es es.length).2 = tk2 := ⟨_, rfl⟩
      rw [htk2] at hR
      have HR := Lib.hid hR; clear hR htk2
      obtain ⟨W0, rfl⟩ : ∃ W0 : World, W0 = wr := ⟨_, rfl⟩
      have t1 := HR.out.tB.cell 1
      go_wp2
      go_loopw [14] (fun v wr => ∃ (f : Nat) (o : List Src), f ≤ t.fn ∧ v = .int .i64 f ∧ upto3 s.nodes t.nodes ds es sd f = some o ∧ RM w s t og og ug o tk2 wr) (fun v _ => t.fn - (intOf v).toNat)
      case atStart => exact ⟨0, _, Nat.zero_le _, rfl, rfl, HR.out⟩
      case round =>
        clear HR t1
        obtain ⟨f, o, hf, rfl, hup, hR⟩ := hrel
        have HUp := Lib.hid hup; have HR := Lib.hid hR; clear hup hR
        have t1 := HR.out.tB.cell 1
        by_cases hlt : f < t.fn
        case neg =>
          obtain rfl : f = t.fn := by omega
          have hfi : ¬ ((t.fn : Nat) : Int) < t.fn := by omega
          have hE := HME.out; have hL := HML.out
          rw [HEl.out, HUp.out] at hE hL
          subst hE hL
          have hol := upto3_len _ _ _ _ _ _ _ HUp.out
          rw [HEl.out] at hol
          have HOl := Lib.hid hol; clear hol
          go_wp2
          go_ret2
          exact ⟨some ⟨og, 0, none⟩, t.fn, t.fn, rfl, HOl.out, Sl.of_own HR.out.oR, HR.out.below⟩
        have hfi : (f : Int) < t.fn := by omega
        have hfe : f < es.length := by rw [HEl.out]; exact hlt
        obtain ⟨b, hb⟩ : ∃ b, es[f]? = some b := ⟨_, List.getElem?_eq_getElem hfe⟩
        have hol : f < o.length := by rw [upto3_len _ _ _ _ _ _ _ HUp.out]; exact hfe
        obtain ⟨x, hx⟩ : ∃ x, o[f]? = some x := ⟨_, List.getElem?_eq_getElem hol⟩
        have k0 := HR.out.src hx
        have hkx := kind_some hx
        have hogl := (own_lt2 HR.out.oR).2.1
        have hup1 : upto3 s.nodes t.nodes ds es sd (f + 1) = step3 es sd o f b := by rw [upto3, HUp.out, hb]
        by_cases hk : x.kind = 0
        case neg =>
          have hk1 : (x.kind != 0) = true := bne_iff_ne.2 hk
          have HU1 := Lib.hid (show upto3 s.nodes t.nodes ds es sd (f + 1) = some o by rw [hup1]; unfold step3; rw [if_pos (by rw [hkx]; exact hk)])
          clear hx hkx hk hup1 hb
          go_wp2
          go_roundw
          case rel => first | exact ⟨f + 1, o, by omega, by go_num, HU1.out, HR.out⟩ | ((repeat apply Exists.intro); exact ⟨⟨f + 1, o, by omega, by go_num, HU1.out, HR.out⟩, rfl⟩)
          case measure => simp [intOf]; omega
        have hk1 : (x.kind != 0) = false := by rw [hk]; rfl
        rw [hk] at k0
        have HU1 := Lib.hid (show upto3 s.nodes t.nodes ds es sd (f + 1) = match srcOf es o b with | some k => some (o.set f (copyS k)) | none => match stockAt sd b with | some k => some (o.set f (newS k)) | none => none by rw [hup1]; unfold step3; rw [if_neg (by rw [hkx, hk]; simp)]; cases srcOf es o b <;> cases stockAt sd b <;> rfl)
        have HUn := Lib.hid (show srcOf es o b = none → stockAt sd b = none → upto3 s.nodes t.nodes ds es sd es.length = none from fun h1 h2 => upto3_none (n := f + 1) (by rw [hup1]; unfold step3; rw [if_neg (by rw [hkx, hk]; simp), h1, h2]) (by omega))
        have HB := Lib.hid hb
        have HLow := Lib.hid (fun g hg => new_low (Nat.le_of_lt hfe) HUp.out (g := g) hg)
        have HOl := Lib.hid hol
        have HLen := Lib.hid (upto3_len _ _ _ _ _ _ _ HUp.out)
        clear hx hkx hk hup1 hb hol
        obtain ⟨W1, rfl⟩ : ∃ W1 : World, W1 = wr := ⟨_, rfl⟩
        go_wp2
        go_loopw [15, 16] (fun v gv wr => ∃ g : Nat, g ≤ t.fn ∧ gv = .int .i64 g ∧ SrK es o b 1 g v ∧ RM w s t og og ug o tk2 wr) (fun _ gv _ => t.fn - (intOf gv).toNat)
        case atStart => exact ⟨0, Nat.zero_le _, rfl, ⟨none, rfl, (fun q h => nomatch h), fun _ j hj => absurd hj (by omega)⟩, HR.out⟩
        case round =>
          clear HR k0 t1
          obtain ⟨g, hg, rfl, ⟨F, rfl, hF1, hF2⟩, hR⟩ := hrel
          have HR := Lib.hid hR; have HF1 := Lib.hid hF1; have HF2 := Lib.hid hF2
          have t1 := HR.out.tB.cell 1
          have htl := HR.out.tB.lt
          clear hR hF1 hF2
          by_cases hgo : g < t.fn ∧ F = none
          · obtain ⟨hgl, rfl⟩ := hgo
            have HF2n := Lib.hid (HF2.out rfl)
            clear HF2 HF1
            have hgi : (g : Int) < t.fn := by omega
            have hgel : g < es.length := by rw [HEl.out]; exact hgl
            have hm1 : optI none = -1 := rfl
            rw [hm1]
            have hTr := HT.out.keep HR.out.below
            obtain ⟨tb, to_, fx, htA, htb, hfx, hsc⟩ := hTr.tree.fs.get FC.len hTr.tree.fl hgl
            obtain ⟨tb2, to2, fy, htA2, _, hfy, htc⟩ := hTr.tree.fs.get FC.len hTr.tree.fl hlt
            rw [htA] at htA2
            injection htA2 with htA2
            injection htA2 with he1 he2
            subst he1 he2
            rw [htA] at t1
            obtain ⟨d, hd, hdn, hdS⟩ := hTr.dat.get hfx
            obtain ⟨e, he, hen, heS⟩ := hTr.dat.get hfy
            obtain rfl : b = e := by rw [HB.out] at he; injection he
            have s1 := hsc 1 _ rfl; have e1 := htc 1 _ rfl
            obtain ⟨y, hy⟩ : ∃ y, o[g]? = some y := ⟨_, List.getElem?_eq_getElem (by rw [HLen.out]; exact hgel)⟩
            have q0 := HR.out.src hy
            have HKy := Lib.hid (kind_some hy)
            have HYy := Lib.hid hy
            have hogl := (own_lt2 HR.out.oR).2.1
            have HDd := Lib.hid hd
            have SD := Lib.hid hdS; have SE := Lib.hid heS; have ND := Lib.hid hdn; have NE := Lib.hid hen
            have hbb := ba_bb d b
            obtain ⟨eq, heq⟩ : ∃ eq, decide (d = b) = eq := ⟨_, rfl⟩
            rw [heq] at hbb
            have HBb := Lib.hid hbb
            have HEq := Lib.hid (show es[g]? = some b ↔ eq = true by rw [← heq, hd, decide_eq_true_eq]; exact ⟨fun h => Option.some.inj h, fun h => by rw [h]⟩)
            clear hsc htc hfx hfy hd hdn hen hdS heS htA hbb heq hTr hy
            go_upto_region 32 with (fail)
            refine wp_region_ordB (none) [(0, true), (1, true), (2, true), (3, true), (4, true), (5, true), (6, true), (7, true), (8, true), (9, true), (10, true), (11, true), (12, false), (13, true)] (by kernel_rfl) (by kernel_rfl) fun hG0 => ?_
            repeat (first
              | (refine ord_skipB rfl (by rfl) ?_; simp only [Act.put, List.setIfInBounds_toArray, List.set_cons_zero, List.set_cons_succ])
              | (refine ord_qE rfl (by rfl) ?_; apply Exists.intro; refine ⟨fun w' hc' => ?_, ?_⟩; (focus (go_simp; (try go_bits); (try simp only [↓IntWalk.iteOmega]); with_reducible rfl)); simp only [Act.put, List.setIfInBounds_toArray, List.set_cons_zero, List.set_cons_succ]))
            refine ord_eB rfl fun K hK => ?_
            go_wp2_with (go_at_call 43; refine (same11_any _ _ _ d _ _ _ b _ (SD.out.below (below_grown hG0 (Nat.le_refl _) (fun g e => by cases e)) (Nat.le_refl _)) ND.out (SE.out.below (below_grown hG0 (Nat.le_refl _) (fun g e => by cases e)) (Nat.le_refl _)) NE.out).mono ?_; rintro e w7 ⟨rfl, hw⟩; rw [hw, HBb.out]; clear hw)
            have hG1 := grown_trans hG0 (World.grownBy.refl _ _)
            refine hK.out _ _ hG1 ?_
            clear hK K
            repeat (first
              | (refine ord_skipB rfl (by rfl) ?_; simp only [Act.put, List.setIfInBounds_toArray, List.set_cons_zero, List.set_cons_succ])
              | (refine ord_qE rfl (by rfl) ?_; apply Exists.intro; refine ⟨fun w' hc' => ?_, ?_⟩; (focus (go_simp; (try go_bits); (try simp only [↓IntWalk.iteOmega]); with_reducible rfl)); simp only [Act.put, List.setIfInBounds_toArray, List.set_cons_zero, List.set_cons_succ]))
            refine ord_end ?_
            have hb7 : Below wr.heap.size wr wr.drew := below_grown hG1 (Nat.le_refl _) (fun g e => by cases e)
            have HR' := Lib.hid (HR.out.keep hb7)
            have q0' := HR'.out.src HYy.out
            clear q0 t1 s1 e1 hG0 hG1 hb7 HR
            cases eq
            · have HF2' := Lib.hid (show ∀ j, j < g + 1 → es[j]? = some b → kindAt o j ≠ 1 from fun j hj hjb => by
                by_cases ej : j = g
                · subst ej; exact absurd (HEq.out.1 hjb) (by simp)
                · exact HF2n.out j (by omega) hjb)
              go_wp2
              go_roundw
              case rel => first | exact ⟨g + 1, by omega, by go_num, ⟨none, rfl, (fun q h => nomatch h), fun _ => HF2'.out⟩, HR'.out⟩ | ((repeat apply Exists.intro); exact ⟨⟨g + 1, by omega, by go_num, ⟨none, rfl, (fun q h => nomatch h), fun _ => HF2'.out⟩, HR'.out⟩, rfl⟩)
              case measure => simp [intOf]; omega
            · by_cases hk1 : y.kind = 1
              · have hk2 : (y.kind == 1) = true := beq_iff_eq.2 hk1
                have HF1' := Lib.hid (show ∀ q, some g = some q → ofKind es 1 o b = some q from fun q h => by
                  injection h with h; subst h
                  exact ofKind_at (HEq.out.2 rfl) (HKy.out.trans hk1) (fun j hj hjb => HF2n.out j hj hjb))
                have ho1 : Value.int IntKind.i64 (g : Int) = Value.int IntKind.i64 (optI (some g)) := rfl
                have HO1 := Lib.hid ho1
                clear hk1 ho1
                go_wp2
                go_roundw
                case rel => first | exact ⟨g + 1, by omega, by go_num, ⟨some g, HO1.out, HF1'.out, (fun h => nomatch h)⟩, HR'.out⟩ | ((repeat apply Exists.intro); exact ⟨⟨g + 1, by omega, by go_num, ⟨some g, HO1.out, HF1'.out, (fun h => nomatch h)⟩, HR'.out⟩, rfl⟩)
                case measure => simp [intOf]; omega
              · have hk2 : (y.kind == 1) = false := beq_eq_false_iff_ne.2 hk1
                have HF2' := Lib.hid (show ∀ j, j < g + 1 → es[j]? = some b → kindAt o j ≠ 1 from fun j hj hjb => by
                  by_cases ej : j = g
                  · subst ej; rw [HKy.out]; exact hk1
                  · exact HF2n.out j (by omega) hjb)
                clear hk1
                go_wp2
                go_roundw
                case rel => first | exact ⟨g + 1, by omega, by go_num, ⟨none, rfl, (fun q h => nomatch h), fun _ => HF2'.out⟩, HR'.out⟩ | ((repeat apply Exists.intro); exact ⟨⟨g + 1, by omega, by go_num, ⟨none, rfl, (fun q h => nomatch h), fun _ => HF2'.out⟩, HR'.out⟩, rfl⟩)
                case measure => simp [intOf]; omega
          · have HF := Lib.hid (show F = ofKind es 1 o b from by
              cases F with
              | some q => exact (HF1.out q rfl).symm
              | none =>
                refine (ofKind_none.2 fun j hj => ?_).symm
                refine HF2.out rfl j ?_ hj
                have h1 := (List.getElem?_eq_some_iff.1 hj).1
                rw [HEl.out] at h1
                have h2 : ¬ g < t.fn := fun h => hgo ⟨h, rfl⟩
                omega)
            have hgc : (g < t.fn ∧ 0 ≤ optI F) ∨ ¬ g < t.fn := by
              by_cases h : g < t.fn
              · left
                cases F with
                | none => exact absurd ⟨h, rfl⟩ hgo
                | some q => exact ⟨h, Int.natCast_nonneg q⟩
              · exact .inr h
            clear hgo HF1 HF2
            obtain ⟨W2, rfl⟩ : ∃ W2 : World, W2 = wr := ⟨_, rfl⟩
            have hgc2 : ((g : Int) < t.fn ∧ ¬ optI F < 0) ∨ ¬ (g : Int) < t.fn := by
              rcases hgc with ⟨h1, h2⟩ | h1
              · exact .inl ⟨by omega, by omega⟩
              · exact .inr (by omega)
            clear hgc
            rcases hgc2 with ⟨hgi, hzi⟩ | hgi
            all_goals
              go_wp2
              go_loopw [15, 18] (fun v gv wr => ∃ g : Nat, g ≤ f ∧ gv = .int .i64 g ∧ SrK2 es o b g v ∧ RM w s t og og ug o tk2 wr) (fun _ gv _ => f - (intOf gv).toNat)
              case atStart => exact ⟨0, Nat.zero_le _, rfl, ⟨F, rfl, fun q h => by unfold srcOf; rw [← HF.out, h], fun h => ⟨by rw [← HF.out, h], fun j hj => absurd hj (by omega)⟩⟩, HR.out⟩
              case round =>
                clear HR t1 HF hgi
                try clear hzi
                obtain ⟨g, hg, rfl, ⟨G, rfl, hF1, hF2⟩, hR⟩ := hrel
                have HR := Lib.hid hR; have HF1 := Lib.hid hF1; have HF2 := Lib.hid hF2
                have t1 := HR.out.tB.cell 1
                have htl := HR.out.tB.lt
                clear hR hF1 hF2
                by_cases hgo : g < f ∧ G = none
                · obtain ⟨hgf, rfl⟩ := hgo
                  have HF3n := Lib.hid (HF2.out rfl).1
                  have HF2n := Lib.hid (HF2.out rfl).2
                  have hgfi : (g : Int) < f := by omega
                  have hgl : g < t.fn := by omega
                  clear HF2 HF1
                  have hgi : (g : Int) < t.fn := by omega
                  have hgel : g < es.length := by rw [HEl.out]; exact hgl
                  have hm1 : optI none = -1 := rfl
                  rw [hm1]
                  have hTr := HT.out.keep HR.out.below
                  obtain ⟨tb, to_, fx, htA, htb, hfx, hsc⟩ := hTr.tree.fs.get FC.len hTr.tree.fl hgl
                  obtain ⟨tb2, to2, fy, htA2, _, hfy, htc⟩ := hTr.tree.fs.get FC.len hTr.tree.fl hlt
                  rw [htA] at htA2
                  injection htA2 with htA2
                  injection htA2 with he1 he2
                  subst he1 he2
                  rw [htA] at t1
                  obtain ⟨d, hd, hdn, hdS⟩ := hTr.dat.get hfx
                  obtain ⟨e, he, hen, heS⟩ := hTr.dat.get hfy
                  obtain rfl : b = e := by rw [HB.out] at he; injection he
                  have s1 := hsc 1 _ rfl; have e1 := htc 1 _ rfl
                  obtain ⟨y, hy⟩ : ∃ y, o[g]? = some y := ⟨_, List.getElem?_eq_getElem (by rw [HLen.out]; exact hgel)⟩
                  have q0 := HR.out.src hy
                  have HKy := Lib.hid (kind_some hy)
                  have HYy := Lib.hid hy
                  have hogl := (own_lt2 HR.out.oR).2.1
                  have HDd := Lib.hid hd
                  have SD := Lib.hid hdS; have SE := Lib.hid heS; have ND := Lib.hid hdn; have NE := Lib.hid hen
                  have hbb := ba_bb d b
                  obtain ⟨eq, heq⟩ : ∃ eq, decide (d = b) = eq := ⟨_, rfl⟩
                  rw [heq] at hbb
                  have HBb := Lib.hid hbb
                  have HEq := Lib.hid (show es[g]? = some b ↔ eq = true by rw [← heq, hd, decide_eq_true_eq]; exact ⟨fun h => Option.some.inj h, fun h => by rw [h]⟩)
                  clear hsc htc hfx hfy hd hdn hen hdS heS htA hbb heq hTr hy
                  go_upto_region 38 with (fail)
                  refine wp_region_ordB (none) [(0, true), (1, true), (2, true), (3, true), (4, true), (5, true), (6, true), (7, true), (8, true), (9, true), (10, true), (11, true), (12, false), (13, true)] (by kernel_rfl) (by kernel_rfl) fun hG0 => ?_
                  repeat (first
                    | (refine ord_skipB rfl (by rfl) ?_; simp only [Act.put, List.setIfInBounds_toArray, List.set_cons_zero, List.set_cons_succ])
                    | (refine ord_qE rfl (by rfl) ?_; apply Exists.intro; refine ⟨fun w' hc' => ?_, ?_⟩; (focus (go_simp; (try go_bits); (try simp only [↓IntWalk.iteOmega]); with_reducible rfl)); simp only [Act.put, List.setIfInBounds_toArray, List.set_cons_zero, List.set_cons_succ]))
                  refine ord_eB rfl fun K hK => ?_
                  go_wp2_with (go_at_call 43; refine (same11_any _ _ _ d _ _ _ b _ (SD.out.below (below_grown hG0 (Nat.le_refl _) (fun g e => by cases e)) (Nat.le_refl _)) ND.out (SE.out.below (below_grown hG0 (Nat.le_refl _) (fun g e => by cases e)) (Nat.le_refl _)) NE.out).mono ?_; rintro e w7 ⟨rfl, hw⟩; rw [hw, HBb.out]; clear hw)
                  have hG1 := grown_trans hG0 (World.grownBy.refl _ _)
                  refine hK.out _ _ hG1 ?_
                  clear hK K
                  repeat (first
                    | (refine ord_skipB rfl (by rfl) ?_; simp only [Act.put, List.setIfInBounds_toArray, List.set_cons_zero, List.set_cons_succ])
                    | (refine ord_qE rfl (by rfl) ?_; apply Exists.intro; refine ⟨fun w' hc' => ?_, ?_⟩; (focus (go_simp; (try go_bits); (try simp only [↓IntWalk.iteOmega]); with_reducible rfl)); simp only [Act.put, List.setIfInBounds_toArray, List.set_cons_zero, List.set_cons_succ]))
                  refine ord_end ?_
                  have hb7 : Below wr.heap.size wr wr.drew := below_grown hG1 (Nat.le_refl _) (fun g e => by cases e)
                  have HR' := Lib.hid (HR.out.keep hb7)
                  have q0' := HR'.out.src HYy.out
                  clear q0 t1 s1 e1 hG0 hG1 hb7 HR
                  cases eq
                  · have HF2' := Lib.hid (show ∀ j, j < g + 1 → es[j]? = some b → kindAt o j ≠ 3 from fun j hj hjb => by
                      by_cases ej : j = g
                      · subst ej; exact absurd (HEq.out.1 hjb) (by simp)
                      · exact HF2n.out j (by omega) hjb)
                    go_wp2
                    go_roundw
                    case rel => first | exact ⟨g + 1, by omega, by go_num, ⟨none, rfl, (fun q h => nomatch h), fun _ => ⟨HF3n.out, HF2'.out⟩⟩, HR'.out⟩ | ((repeat apply Exists.intro); exact ⟨⟨g + 1, by omega, by go_num, ⟨none, rfl, (fun q h => nomatch h), fun _ => ⟨HF3n.out, HF2'.out⟩⟩, HR'.out⟩, rfl⟩)
                    case measure => simp [intOf]; omega
                  · by_cases hk1 : y.kind = 3
                    · have hk2 : (y.kind == 3) = true := beq_iff_eq.2 hk1
                      have HF1' := Lib.hid (show srcOf es o b = some g from by
                        unfold srcOf
                        rw [HF3n.out]
                        exact ofKind_at (HEq.out.2 rfl) (HKy.out.trans hk1) (fun j hj hjb => HF2n.out j hj hjb))
                      have ho1 : Value.int IntKind.i64 (g : Int) = Value.int IntKind.i64 (optI (some g)) := rfl
                      have HO1 := Lib.hid ho1
                      clear hk1 ho1
                      go_wp2
                      go_roundw
                      case rel => first | exact ⟨g + 1, by omega, by go_num, ⟨some g, HO1.out, (fun q h => by injection h with h; subst h; exact HF1'.out), (fun h => nomatch h)⟩, HR'.out⟩ | ((repeat apply Exists.intro); exact ⟨⟨g + 1, by omega, by go_num, ⟨some g, HO1.out, (fun q h => by injection h with h; subst h; exact HF1'.out), (fun h => nomatch h)⟩, HR'.out⟩, rfl⟩)
                      case measure => simp [intOf]; omega
                    · have hk2 : (y.kind == 3) = false := beq_eq_false_iff_ne.2 hk1
                      have HF2' := Lib.hid (show ∀ j, j < g + 1 → es[j]? = some b → kindAt o j ≠ 3 from fun j hj hjb => by
                        by_cases ej : j = g
                        · subst ej; rw [HKy.out]; exact hk1
                        · exact HF2n.out j (by omega) hjb)
                      clear hk1
                      go_wp2
                      go_roundw
                      case rel => first | exact ⟨g + 1, by omega, by go_num, ⟨none, rfl, (fun q h => nomatch h), fun _ => ⟨HF3n.out, HF2'.out⟩⟩, HR'.out⟩ | ((repeat apply Exists.intro); exact ⟨⟨g + 1, by omega, by go_num, ⟨none, rfl, (fun q h => nomatch h), fun _ => ⟨HF3n.out, HF2'.out⟩⟩, HR'.out⟩, rfl⟩)
                      case measure => simp [intOf]; omega
                · have HG := Lib.hid (show G = srcOf es o b from by
                    cases G with
                    | some q => exact (HF1.out q rfl).symm
                    | none =>
                      obtain ⟨h1, h2⟩ := HF2.out rfl
                      unfold srcOf
                      rw [h1]
                      refine (ofKind_none.2 fun j hj hk => ?_).symm
                      have h3 := HLow.out j hk
                      exact h2 j (by have h4 : ¬ g < f := fun h => hgo ⟨h, rfl⟩; omega) hj hk)
                  have hgc : ((g : Int) < f ∧ ¬ optI G < 0) ∨ ¬ (g : Int) < f := by
                    by_cases h : g < f
                    · left
                      cases G with
                      | none => exact absurd ⟨h, rfl⟩ hgo
                      | some q => exact ⟨by omega, by have : optI (some q) = q := rfl; omega⟩
                    · exact .inr (by omega)
                  have HU2 := HU1.out
                  have HUn2 := HUn.out
                  rw [← HG.out] at HU2 HUn2
                  have HU2 := Lib.hid HU2; have HUn2 := Lib.hid HUn2
                  clear hgo HF1 HF2
                  rcases hgc with ⟨hgi, hzi⟩ | hgi
                  all_goals
                    cases G with
                    | some q =>
                      have hq1 : optI (some q) = q := rfl
                      have hq0 : (0 : Int) ≤ q := by omega
                      rw [hq1]
                      try rw [hq1] at hzi
                      have HU3 := Lib.hid (show upto3 s.nodes t.nodes ds es sd (f + 1) = some (o.set f (copyS q)) from HU2.out)
                      clear t1
                      go_wp2_with (refine wpList_store_own (sz := 3) (k := f) (off := f * 3) rfl 35 _ _ rfl HR.out.oR hlt rfl rfl #[.int .i64 2, .int .i64 q, .int .i64 0] rfl rfl (by kernel_rfl) (src_one _ _ _) ?_; intro w8 ho8 hg8)
                      have ho8' : w8.ownsRow og 35 3 (.slice (some ⟨og, 0, none⟩) t.fn t.fn) t.fn ((o.set f (copyS q)).flatMap Src.list) := by
                        rw [← src_set HOl.out (copyS q)]; exact ho8
                      have HR8 := Lib.hid (HR.out.setO hbase ho8' hg8)
                      clear ho8 ho8' hg8 HR
                      go_roundw
                      case rel => first | exact ⟨f + 1, o.set f (copyS q), by omega, by go_num, HU3.out, HR8.out⟩ | ((repeat apply Exists.intro); exact ⟨⟨f + 1, o.set f (copyS q), by omega, by go_num, HU3.out, HR8.out⟩, rfl⟩)
                      case measure => simp [intOf]; omega
                    | none =>
                      have HUn3 := Lib.hid (HUn2.out rfl)
                      have hq1 : optI none = -1 := rfl
                      rw [hq1]
                      try rw [hq1] at hzi
                      try (exfalso; omega)
                      all_goals
                        have hTr := HT.out.keep HR.out.below
                        obtain ⟨tb, to_, fy, htA, htb, hfy, htc⟩ := hTr.tree.fs.get FC.len hTr.tree.fl hlt
                        rw [htA] at t1
                        obtain ⟨e, he, hen, heS⟩ := hTr.dat.get hfy
                        obtain rfl : b = e := by rw [HB.out] at he; injection he
                        have e1 := htc 1 _ rfl
                        have SE := Lib.hid heS; have NE := Lib.hid hen
                        obtain ⟨fd, hfd⟩ : ∃ fd, findE sd b = fd := ⟨_, rfl⟩
                        have HFd := Lib.hid hfd
                        have hcase : (fd = -1 ∧ stockAt sd b = none) ∨ ∃ k : Nat, fd = k ∧ stockAt sd b = some k := by
                          rw [← hfd]
                          unfold findE
                          cases stockAt sd b with
                          | none => exact .inl ⟨rfl, rfl⟩
                          | some k => exact .inr ⟨k, rfl, rfl⟩
                        clear htc hfy he hen heS htA hTr hfd
                        go_upto_region 44 with (go_at_call 27; refine (rfind10_any SA sn sc ss sd _ _ _ b _ (HK.out.keep HR.out.below) SE.out NE.out).mono ?_; rintro e w6 ⟨rfl, hb6⟩; rw [HFd.out])
                        have HR6 := Lib.hid (HR.out.keep hb6)
                        clear hb6 t1 e1 HR
                        rcases hcase with ⟨rfl, hst⟩ | ⟨k, rfl, hst⟩
                        · have hE := HME.out; have hL := HML.out
                          rw [HUn3.out hst] at hE hL
                          subst hE hL
                          clear hst
                          go_wp2
                          go_ret2
                          exact ⟨none, 0, 0, rfl, rfl, ⟨rfl, fun h => absurd h (by omega)⟩, HR6.out.below⟩
                        · have hk0 : ¬ (k : Int) < 0 := by omega
                          have HU3 := Lib.hid (show upto3 s.nodes t.nodes ds es sd (f + 1) = some (o.set f (newS k)) from by rw [HU2.out, hst])
                          clear hst
                          go_wp2_with (refine wpList_store_own (sz := 3) (k := f) (off := f * 3) rfl 35 _ _ rfl HR6.out.oR hlt rfl rfl #[.int .i64 3, .int .i64 0, .int .i64 k] rfl rfl (by kernel_rfl) (src_one _ _ _) ?_; intro w8 ho8 hg8)
                          have ho8' : w8.ownsRow og 35 3 (.slice (some ⟨og, 0, none⟩) t.fn t.fn) t.fn ((o.set f (newS k)).flatMap Src.list) := by
                            rw [← src_set HOl.out (newS k)]; exact ho8
                          have HR8 := Lib.hid (HR6.out.setO hbase ho8' hg8)
                          clear ho8 ho8' hg8 HR6
                          go_roundw
                          case rel => first | exact ⟨f + 1, o.set f (newS k), by omega, by go_num, HU3.out, HR8.out⟩ | ((repeat apply Exists.intro); exact ⟨⟨f + 1, o.set f (newS k), by omega, by go_num, HU3.out, HR8.out⟩, rfl⟩)
                          case measure => simp [intOf]; omega
    · have hp2 : p = 1 ∨ p = 2 := by omega
      have hpi : (p : Int) ≤ 2 := by omega
      rw [if_neg hp] at hR
      have HR := Lib.hid hR; clear hR
      obtain ⟨W0, rfl⟩ : ∃ W0 : World, W0 = wr := ⟨_, rfl⟩
      have hst := in_step s.nodes t.nodes ds es p
      have HSt := Lib.hid (fun f => hst f hp2); clear hst
      go_wp2
      go_loopw [12] (fun v wr => ∃ f : Nat, f ≤ t.fn ∧ v = .int .i64 f ∧ RM w s t og og ug (inSt s.nodes t.nodes ds es p f).1 (inSt s.nodes t.nodes ds es p f).2 wr) (fun v _ => t.fn - (intOf v).toNat)
      case atStart => exact ⟨0, Nat.zero_le _, rfl, HR.out⟩
      case round =>
        clear HR
        obtain ⟨f, hf, rfl, hR⟩ := hrel
        have HR := Lib.hid hR; clear hR
        have hsB := HR.out.sB; have htB := HR.out.tB
        have b0 := hsB.cell 0; have b1 := hsB.cell 1; have t0 := htB.cell 0; have t1 := htB.cell 1
        have hsl := hsB.lt; have htl := htB.lt
        have hogl := (own_lt2 HR.out.oR).2.1
        clear hsB htB
        by_cases hlt : f < t.fn
        · have hfi : (f : Int) < t.fn := by omega
          have hfe : f < es.length := by rw [HEl.out]; exact hlt
          obtain ⟨x, hx⟩ : ∃ x, (inSt s.nodes t.nodes ds es p f).1[f]? = some x := ⟨_, List.getElem?_eq_getElem (by rw [inSt_len]; exact hfe)⟩
          have k0 := HR.out.src hx
          have hkx := kind_some hx
          by_cases hk : x.kind = 0
          · have hk1 : (x.kind != 0) = false := by rw [hk]; rfl
            rw [hk] at k0
            have HStep := Lib.hid (show inSt s.nodes t.nodes ds es p (f + 1) = setK f (pickSt s.nodes t.nodes ds es p f) (inSt s.nodes t.nodes ds es p f) by rw [HSt.out, if_pos (by rw [hkx]; exact hk)])
            have hpick : Hid (∀ W, Below w.heap.size w W → Sl W W.heap.size 1 (some ⟨ug, 0, none⟩) s.fn ((takenL (inSt s.nodes t.nodes ds es p f).2 s.fn).flatMap boolL) → Calls Try.prog (if p = 1 then 41 else 42) #[.agg #[.slice s.NA s.nn s.nc, .slice s.FA s.fn s.fc], .agg #[.slice t.NA t.nn t.nc, .slice t.FA t.fn t.fc], .int .i64 f, .slice (some ⟨ug, 0, none⟩) s.fn s.fn] W (IntRes (optI (pickSt s.nodes t.nodes ds es p f)) W)) := Lib.hid fun W hW hT => by
              rcases hp2 with rfl | rfl
              · exact HNam.out f hlt _ _ _ W (HS.out.keep hW) (HT.out.keep hW) hT
              · exact HAli.out f hlt _ _ _ W (HS.out.keep hW) (HT.out.keep hW) hT
            have hpl : ∀ g, pickSt s.nodes t.nodes ds es p f = some g → g < s.fn := fun g h => by rw [← HDl.out]; exact fits_lt hfe (pick_fits h)
            have hol : f < (inSt s.nodes t.nodes ds es p f).1.length := by rw [inSt_len]; exact hfe
            clear hx hkx hk
            obtain ⟨st, hst⟩ : ∃ st, inSt s.nodes t.nodes ds es p f = st := ⟨_, rfl⟩
            obtain ⟨st', hst'⟩ : ∃ st, inSt s.nodes t.nodes ds es p (f + 1) = st := ⟨_, rfl⟩
            obtain ⟨pk, hpk⟩ : ∃ pk, pickSt s.nodes t.nodes ds es p f = pk := ⟨_, rfl⟩
            rw [hst] at hpick HStep HR hol
            rw [hst'] at HStep
            rw [hpk] at hpick HStep hpl
            have HSt' := Lib.hid hst'
            clear hst hst' hpk
            rcases hp2 with rfl | rfl
            all_goals
              have hpick2 := hpick.out
              simp only [if_true, Nat.reduceEqDiff, if_false] at hpick2
              have HP := Lib.hid hpick2
              clear hpick hpick2
              go_upto_region 21 with (first | (go_at_call 41; refine (HP.out _ HR.out.below (Sl.of_own HR.out.uR)).mono ?_; rintro e w6 ⟨rfl, hb6⟩) | (go_at_call 42; refine (HP.out _ HR.out.below (Sl.of_own HR.out.uR)).mono ?_; rintro e w6 ⟨rfl, hb6⟩))
              have HR6 := Lib.hid (HR.out.keep hb6)
              clear hb6 b0 b1 t0 t1 k0 HR
              have t1 := HR6.out.tB.cell 1
              cases pk with
              | none =>
                have HS2 := Lib.hid (show st' = st from HStep.out)
                have hopt : optI none = -1 := rfl
                rw [hopt]
                clear t1
                go_wp2
                go_roundw
                case rel =>
                  repeat apply Exists.intro
                  exact ⟨⟨f + 1, by omega, by go_num, by rw [HSt'.out, HS2.out]; exact HR6.out⟩, rfl⟩
                case measure => simp [intOf]; omega
              | some g =>
                have hgs := hpl g rfl
                have hgi : (g : Int) < s.fn := by omega
                have hg0 : (0 : Int) ≤ g := by omega
                have hopt : optI (some g) = g := rfl
                rw [hopt]
                have HS2 := Lib.hid (show st' = (st.1.set f (keepS g), fun x => x == g || st.2 x) from HStep.out)
                obtain ⟨cur, hBc⟩ := own_cur HR6.out.uR
                have uf := hBc.frozen g
                have hul := hBc.lt
                have u0 := (own_row HR6.out.uR).1 (g * 1 + 0) _ (flat_get (f := boolL) (sz := 1) (fun _ => rfl) (takenL_get (tk := st.2) hgs) (j := 0) (by omega))
                simp only [Nat.zero_add, Nat.mul_one, Nat.add_zero] at u0
                have HR7 := Lib.hid (HR6.out.setU hbase hgs)
                clear hBc t1
                go_wp2_with (refine wpList_store_own (sz := 3) (k := f) (off := f * 3) rfl 35 _ _ rfl HR7.out.oR hlt rfl rfl #[.int .i64 1, .int .i64 g, .int .i64 0] rfl rfl (by kernel_rfl) (src_one _ _ _) ?_; intro w8 ho8 hg8)
                have ho8' : w8.ownsRow og 35 3 (.slice (some ⟨og, 0, none⟩) t.fn t.fn) t.fn ((st.1.set f (keepS g)).flatMap Src.list) := by
                  rw [← src_set hol (keepS g)]; exact ho8
                have HR8 := Lib.hid (HR7.out.setO hbase ho8' hg8)
                clear ho8 ho8' hg8 HR7 HR6 u0 uf
                go_roundw
                case rel => first | exact ⟨f + 1, by omega, by go_num, by rw [HSt'.out, HS2.out]; exact HR8.out⟩ | ((repeat apply Exists.intro); exact ⟨⟨f + 1, by omega, by go_num, by rw [HSt'.out, HS2.out]; exact HR8.out⟩, rfl⟩)
                case measure => simp [intOf]; omega
          · have hk1 : (x.kind != 0) = true := bne_iff_ne.2 hk
            have HStep := Lib.hid (show inSt s.nodes t.nodes ds es p (f + 1) = inSt s.nodes t.nodes ds es p f by rw [HSt.out, if_neg (by rw [hkx]; exact hk)])
            clear hx hkx hk
            go_wp2
            go_roundw
            case rel => first | exact ⟨f + 1, by omega, by go_num, by rw [HStep.out]; exact HR.out⟩ | ((repeat apply Exists.intro); exact ⟨⟨f + 1, by omega, by go_num, by rw [HStep.out]; exact HR.out⟩, rfl⟩)
            case measure => simp [intOf]; omega
        · obtain rfl : f = t.fn := by omega
          have hfi : ¬ ((t.fn : Nat) : Int) < t.fn := by omega
          have HNext := Lib.hid (show (if p + 1 = 3 then upto2 s.nodes t.nodes ds es es.length else inSt s.nodes t.nodes ds es (p + 1) 0) = inSt s.nodes t.nodes ds es p t.fn by
            rw [← HEl.out]
            rcases hp2 with rfl | rfl
            · rw [if_neg (by omega)]; rfl
            · rw [if_pos rfl]; rfl)
          go_wp2
          go_roundw
          case rel => exact ⟨p + 1, by omega, by omega, by go_num, by rw [HNext.out]; exact HR.out⟩
          case measure => simp [intOf]; omega
end Go.Proofs.Ytcnpncieibmngaa
