/- MatchSays: match.Match and match.Fresh say what the document says; what is handed in stays. For every two trees and stock whose bulk is at most 1048576. -/
import Derived.Test.YtcnpncieibmngaaSaysP
import Derived.Test.YtcnpncieibmngaaLent
import Derived.Test.YtcnpncieibmngaaLent7s
import Derived.Test.YtcnpncieibmngaaPairM
import Derived.ChangeMaps5
import Derived.Deep.DeepCutAuto
namespace Go.Proofs.Ytcnpncieibmngaa.matchSaysDone
open Go.ChangeShapes Go.WideShapes Go.ChangeAt Go.ChangeMaps Go.RowKit Go.Deep

/-- What lies in memory while the law runs. -/
structure SayAt (w : World) (pv : Array Value) (g5 g6 : Nat) (u v : TV) (ds es : List ByteArray) (kA : Option Addr) (sn kc : Nat) (gs : List SC) (sd : List ByteArray) (W : World) : Prop where
  pB : Blk W w.heap.size 38 pv
  sB : Blk W g5 25 #[.slice u.NA u.nn u.nc, .slice u.FA u.fn u.fc]
  tB : Blk W g6 25 #[.slice v.NA v.nn v.nc, .slice v.FA v.fn v.fc]
  sL : LentAt W u
  sD : TreeD W u ds
  tL : LentAt W v
  tD : TreeD W v es
  kL : Lent7At W kA sn kc gs
  kD : StockAt W kA sn gs sd
  below : Below w.heap.size w W
theorem SayAt.keep {w : World} {pv : Array Value} {g5 g6 : Nat} {u v : TV} {ds es : List ByteArray} {kA : Option Addr} {sn kc : Nat} {gs : List SC} {sd : List ByteArray} {W W' : World} (h : SayAt w pv g5 g6 u v ds es kA sn kc gs sd W) (hb : Below W.heap.size W W') : SayAt w pv g5 g6 u v ds es kA sn kc gs sd W' :=
  ⟨h.pB.below hb h.pB.lt, h.sB.below hb h.sB.lt, h.tB.below hb h.tB.lt, h.sL.keep hb, h.sD.keep hb, h.tL.keep hb, h.tD.keep hb, h.kL.keep hb, h.kD.keep hb, h.below.trans (hb.mono h.below.size)⟩
theorem SayAt.cells {w : World} {pv : Array Value} {g5 g6 : Nat} {u v : TV} {ds es : List ByteArray} {kA : Option Addr} {sn kc : Nat} {gs : List SC} {sd : List ByteArray} {W : World} {x0 x1 x2 x3 x4 : Value} (h : SayAt w pv g5 g6 u v ds es kA sn kc gs sd W) (hp : pv = #[x0, x1, x2, x3, x4]) :
    W.cell? ⟨w.heap.size, 0, none⟩ = some x0 ∧ W.cell? ⟨w.heap.size, 1, none⟩ = some x1 ∧ W.cell? ⟨w.heap.size, 2, none⟩ = some x2 ∧ W.cell? ⟨w.heap.size, 3, none⟩ = some x3 ∧ W.cell? ⟨w.heap.size, 4, none⟩ = some x4 ∧ W.cell? ⟨g5, 0, none⟩ = some (.slice u.NA u.nn u.nc) ∧ W.cell? ⟨g5, 1, none⟩ = some (.slice u.FA u.fn u.fc) ∧ W.cell? ⟨g6, 0, none⟩ = some (.slice v.NA v.nn v.nc) ∧ W.cell? ⟨g6, 1, none⟩ = some (.slice v.FA v.fn v.fc) := by
  subst hp
  exact ⟨h.pB.cell 0, h.pB.cell 1, h.pB.cell 2, h.pB.cell 3, h.pB.cell 4, h.sB.cell 0, h.sB.cell 1, h.tB.cell 0, h.tB.cell 1⟩
theorem match_same {s t u v : TV} {ds es sd : List ByteArray} (h1 : u.nodes = s.nodes) (h2 : checkE u = checkE s) (h3 : v.nodes = t.nodes) (h4 : checkE v = checkE t) : matchE u v ds es sd = matchE s t ds es sd ∧ matchL u v ds es sd = matchL s t ds es sd ∧ checksE u v = checksE s t := by
  unfold matchE matchL checksE
  rw [h1, h2, h3, h4]
  exact ⟨rfl, rfl, rfl⟩
theorem matchL_le (s t : TV) (ds es sd : List ByteArray) : (matchL s t ds es sd).length ≤ es.length := by
  unfold matchL
  split
  · exact Nat.zero_le _
  · split
    · exact Nat.zero_le _
    · split
      · exact Nat.zero_le _
      · split
        · next o h => rw [upto3_len _ _ _ _ _ _ _ h]; exact Nat.le_refl _
        · exact Nat.zero_le _
theorem own_nm' {w : World} {base e sz n c : Nat} {A : Option Addr} {L : List Value} (h : w.ownsRow base e sz (.slice A n c) n L) : n ≤ 9223372036854775807 := by
  rcases h.2 with ⟨_, h0⟩ | ⟨g, cap, cur, hv, hg, hh, hnc, hcm, hcs, ht⟩
  · omega
  · unfold maxLen at hcm; omega
set_option maxRecDepth 100000 in
set_option maxHeartbeats 16000000 in
theorem walk (s : TV) (ds : List ByteArray) (t : TV) (es : List ByteArray) (SA : Option Addr) (sn sc : Nat) (ss : List SC) (sd : List ByteArray) (w : World) (hs : TreeD w s ds) (ht : TreeD w t es) (hS : StockAt w SA sn ss sd) (hsm1 : ∀ x ∈ s.files, x.n ≤ 2000000) (hsm2 : ∀ x ∈ t.files, x.n ≤ 2000000) (hsm3 : sn ≤ 2000000) (hsm4 : ∀ x ∈ ss, x.n ≤ 2000000) :
    Calls Try.prog 7 #[pairVal s t SA sn sc] w fun e w' => e = .returned (.bool true) ∧ Below w.heap.size w w' := by
  have hmuch := fun W (h1 : TreeAt W s) (h2 : TreeAt W t) (h3 : StockAt W SA sn ss sd) => much11_any s t SA sn sc ss sd W h1 h2 h3
  have HMuch := Lib.hid hmuch
  have HS := Lib.hid hs; have HT := Lib.hid ht; have HK := Lib.hid hS; have HM1 := Lib.hid hsm1; have HM2 := Lib.hid hsm2; have HM4 := Lib.hid hsm4
  clear hmuch hs ht hS hsm1 hsm2 hsm4
  unfold pairVal at HMuch ⊢
  obtain ⟨pv, hpv⟩ : ∃ pv : Array Value, pv = #[.slice s.NA s.nn s.nc, .slice s.FA s.fn s.fc, .slice t.NA t.nn t.nc, .slice t.FA t.fn t.fc, .slice SA sn sc] := ⟨_, rfl⟩
  have hB := Blk.new w 38 #[.slice s.NA s.nn s.nc, .slice s.FA s.fn s.fc, .slice t.NA t.nn t.nc, .slice t.FA t.fn t.fc, .slice SA sn sc]
  have hb := (Below.refl w.heap.size w).alloc (Nat.le_refl _) (.cells #[.slice s.NA s.nn s.nc, .slice s.FA s.fn s.fc, .slice t.NA t.nn t.nc, .slice t.FA t.fn t.fc, .slice SA sn sc] 38)
  have HPv := Lib.hid hpv
  clear hpv
  go_enter Try.func7, Try.ntmps7
  go_upto_region 3 with (first | (go_at_call 9; refine (alive11 _).mono ?_; rintro e w1 ⟨rfl, hb1⟩; replace hB := hB.below hb1 hB.lt; replace hb := hb.trans (hb1.mono hb.size); have b0 := hB.cell 0; have b1 := hB.cell 1; have b2 := hB.cell 2; have b3 := hB.cell 3; have b4 := hB.cell 4) | (go_at_call 14; refine (HMuch.out _ (HS.out.tree.keep hb) (HT.out.tree.keep hb) (HK.out.keep hb)).mono ?_; rintro e w2 ⟨x, rfl, hx, hb2⟩; replace hB := hB.below hb2 hB.lt; replace hb := hb.trans (hb2.mono hb.size); clear b0 b1 b2 b3 b4; have b0 := hB.cell 0; have b1 := hB.cell 1; have b2 := hB.cell 2; have b3 := hB.cell 3; have b4 := hB.cell 4))
  cases x with
  | true =>
    go_wp2
    go_ret
    exact ⟨rfl, hb⟩
  | false =>
    obtain ⟨hsn, hsf, htn, htf⟩ := hx rfl
    have hBl2 := hB.lt
    have hl1 := fun W h => lent_any s ds W h (by omega) (by omega) HM1.out
    have hl2 := fun W h => lent_any t es W h (by omega) (by omega) HM2.out
    unfold TV.val at hl1 hl2
    have HL1 := Lib.hid hl1; have HL2 := Lib.hid hl2
    clear hx hb1 hb2 hl1 hl2
    have tok1 : True := trivial
    go_upto_region 5 with (fail)
    go_upto_region 6 with (go_at_call 19; refine (HL1.out _ (HS.out.keep hb)).mono ?_; rintro e w3 ⟨u, rfl, hLu, hDu, hXu, hb3⟩)
    have hU := Blk.new w3 25 #[.slice u.NA u.nn u.nc, .slice u.FA u.fn u.fc]
    have hg3 := (Below.refl w3.heap.size w3).alloc (Nat.le_refl _) (.cells #[.slice u.NA u.nn u.nc, .slice u.FA u.fn u.fc] 25)
    have hbe := hb3.trans (hg3.mono hb3.size)
    obtain ⟨W3, hW3⟩ : ∃ W, w3.alloc (.cells #[.slice u.NA u.nn u.nc, .slice u.FA u.fn u.fc] 25) = W := ⟨_, rfl⟩
    obtain ⟨g5, hg5⟩ : ∃ g, w3.heap.size = g := ⟨_, rfl⟩
    have hLu3 := hLu.keep hg3; have hDu3 := hDu.keep hg3
    rw [hW3] at hU hbe hLu3 hDu3 ⊢
    rw [hg5] at hU ⊢
    replace hB := hB.below hbe hBl2
    replace hb := hb.trans (hbe.mono hb.size)
    have HXu := Lib.hid hXu; have HLu := Lib.hid hLu3; have HDu := Lib.hid hDu3
    clear hW3 hg5 hg3 hb3 hbe hLu hDu hLu3 hDu3 hXu b0 b1 b2 b3 b4 hBl2
    have b2 := hB.cell 2; have b3 := hB.cell 3
    have hBl3 := hB.lt; have hUl := hU.lt
    go_upto_region 7 with (go_at_call 19; refine (HL2.out _ (HT.out.keep hb)).mono ?_; rintro e w4 ⟨v, rfl, hLv, hDv, hXv, hb4⟩)
    have hV := Blk.new w4 25 #[.slice v.NA v.nn v.nc, .slice v.FA v.fn v.fc]
    have hg4 := (Below.refl w4.heap.size w4).alloc (Nat.le_refl _) (.cells #[.slice v.NA v.nn v.nc, .slice v.FA v.fn v.fc] 25)
    have hbe := hb4.trans (hg4.mono hb4.size)
    obtain ⟨W4, hW4⟩ : ∃ W, w4.alloc (.cells #[.slice v.NA v.nn v.nc, .slice v.FA v.fn v.fc] 25) = W := ⟨_, rfl⟩
    obtain ⟨g6, hg6⟩ : ∃ g, w4.heap.size = g := ⟨_, rfl⟩
    have hLv4 := hLv.keep hg4; have hDv4 := hDv.keep hg4
    rw [hW4] at hV hbe hLv4 hDv4 ⊢
    rw [hg6] at hV ⊢
    replace hB := hB.below hbe hBl3; replace hU := hU.below hbe hUl
    have HLu4 := Lib.hid (HLu.out.keep hbe); have HDu4 := Lib.hid (HDu.out.keep hbe)
    replace hb := hb.trans (hbe.mono hb.size)
    have HXv := Lib.hid hXv; have HLv := Lib.hid hLv4; have HDv := Lib.hid hDv4
    clear hW4 hg6 hg4 hb4 hbe hLv hDv hLv4 hDv4 hXv b2 b3 hBl3 hUl HLu HDu
    have b4 := hB.cell 4
    have hBl4 := hB.lt; have hUl := hU.lt; have hVl := hV.lt
    go_upto_region 8 with (go_at_call 20; refine (lent7_any SA sn sc ss sd _ (HK.out.keep hb) hsm3 HM4.out).mono ?_; rintro e w5 ⟨kA, kc, gs, rfl, hL7, hD7, hb5⟩)
    have HA := Lib.hid (show SayAt w pv g5 g6 u v ds es kA sn kc gs sd w5 from ⟨by rw [HPv.out]; exact hB.below hb5 hBl4, hU.below hb5 hUl, hV.below hb5 hVl, HLu4.out.keep hb5, HDu4.out.keep hb5, HLv.out.keep hb5, HDv.out.keep hb5, hL7, hD7, hb.trans (hb5.mono hb.size)⟩)
    obtain ⟨hun, huc⟩ := lent_check HDu4.out HS.out HXu.out
    obtain ⟨hvn, hvc⟩ := lent_check HDv.out HT.out HXv.out
    obtain ⟨hm1, hm2, hm3⟩ := match_same (ds := ds) (es := es) (sd := sd) hun huc hvn hvc
    obtain ⟨M, hM⟩ : ∃ M, matchE s t ds es sd = M := ⟨_, rfl⟩
    obtain ⟨L, hL⟩ : ∃ L, matchL s t ds es sd = L := ⟨_, rfl⟩
    obtain ⟨C, hC⟩ : ∃ C, checksE s t = C := ⟨_, rfl⟩
    have HLn := Lib.hid (show L.length ≤ es.length by rw [← hL]; exact matchL_le s t ds es sd)
    have hmat := fun W (h1 : TreeD W u ds) (h2 : TreeD W v es) (h3 : StockAt W kA sn gs sd) => match_any u v ds es kA sn kc gs sd W h1 h2 h3
    have hfre := fun W (h1 : TreeD W u ds) (h2 : TreeD W v es) => fresh_any u v ds es W h1 h2
    have hrm := fun W (h1 : TreeD W s ds) (h2 : TreeD W t es) (h3 : StockAt W SA sn ss sd) => rmatch_any s t ds es SA sn sc ss sd W h1 h2 h3
    rw [hm1, hm2, hM, hL] at hmat
    rw [hm3, hC] at hfre
    rw [hM, hL] at hrm
    unfold TV.val at hmat hfre hrm
    have HMat := Lib.hid hmat; have HFre := Lib.hid hfre; have HRm := Lib.hid hrm; have HCc := Lib.hid hC
    clear hmat hfre hrm hM hL hC hm1 hm2 hm3 hun huc hvn hvc hL7 hD7 hb5 b4 hBl4 hUl hVl hB hU hV hb HLu4 HDu4 HLv HDv HL1 HL2 HMuch
    have hst1 := fun W (h : SayAt w pv g5 g6 u v ds es kA sn kc gs sd W) => stays_yes u s ds ds W h.sL h.sD (HS.out.keep h.below) HXu.out (by omega) (by omega) (fun x hx => by have := HM1.out x hx; omega)
    have hst2 := fun W (h : SayAt w pv g5 g6 u v ds es kA sn kc gs sd W) => stays_yes v t es es W h.tL h.tD (HT.out.keep h.below) HXv.out (by omega) (by omega) (fun x hx => by have := HM2.out x hx; omega)
    have hst7 := fun W (h : SayAt w pv g5 g6 u v ds es kA sn kc gs sd W) => stay7_yes kA SA sn kc sc gs ss sd W h.kL h.kD (HK.out.keep h.below) hsm3 HM4.out
    unfold TV.val at hst1 hst2
    have HSt1 := Lib.hid hst1; have HSt2 := Lib.hid hst2; have HSt7 := Lib.hid hst7
    clear hst1 hst2 hst7
    obtain ⟨b0, b1, b2, b3, b4, u0, u1, v0, v1⟩ := HA.out.cells HPv.out
    go_upto_region 9 with (go_at_call 12; refine (HMat.out _ HA.out.sD HA.out.tD HA.out.kD).mono ?_; rintro e w6 ⟨A, n, c, rfl, hn, hR, hb6⟩)
    have HA6 := Lib.hid (HA.out.keep hb6)
    have HR6 := Lib.hid hR; have Hn := Lib.hid hn
    clear hR hn hb6 HA b0 b1 b2 b3 b4 u0 u1 v0 v1
    obtain ⟨b0, b1, b2, b3, b4, u0, u1, v0, v1⟩ := HA6.out.cells HPv.out
    go_upto_region 10 with (go_at_call 21; refine (HFre.out _ HA6.out.sD HA6.out.tD).mono ?_; rintro e w7 ⟨fA, fln, fcp, fss, rfl, hFR, hb7⟩)
    have HA7 := Lib.hid (HA6.out.keep hb7)
    have HR7 := Lib.hid ((HR6.out.below hb7 (Nat.le_refl _)).more hb7.size)
    have HF7 := Lib.hid hFR
    have Hb7 := Lib.hid hb7
    clear hFR hb7 HR6 b0 b1 b2 b3 b4 u0 u1 v0 v1
    obtain ⟨b0, b1, b2, b3, b4, u0, u1, v0, v1⟩ := HA7.out.cells HPv.out
    go_upto_region 11 with (first | (have _t := tok1; go_at_call 22; clear tok1 _t; refine (HSt1.out _ HA7.out).mono ?_; rintro e w8 ⟨rfl, hb8⟩; have HA8 := Lib.hid (HA7.out.keep hb8); clear b0 b1 b2 b3 b4 u0 u1 v0 v1; obtain ⟨b0, b1, b2, b3, b4, u0, u1, v0, v1⟩ := HA8.out.cells HPv.out) | (go_at_call 22; refine (HSt2.out _ HA8.out).mono ?_; rintro e w9 ⟨rfl, hb9⟩; have HA9 := Lib.hid (HA8.out.keep hb9); clear b0 b1 b2 b3 b4 u0 u1 v0 v1; obtain ⟨b0, b1, b2, b3, b4, u0, u1, v0, v1⟩ := HA9.out.cells HPv.out) | (go_at_call 23; refine (HSt7.out _ HA9.out).mono ?_; rintro e w10 ⟨rfl, hb10⟩; have HA10 := Lib.hid (HA9.out.keep hb10); clear b0 b1 b2 b3 b4 u0 u1 v0 v1; obtain ⟨b0, b1, b2, b3, b4, u0, u1, v0, v1⟩ := HA10.out.cells HPv.out))
    have hb710 := hb8.trans ((hb9.mono hb8.size).trans (hb10.mono (Nat.le_trans hb8.size hb9.size)))
    have HR10 := Lib.hid ((HR7.out.below hb710 (Nat.le_refl _)).more hb710.size)
    have HF10 := Lib.hid (HF7.out.below hb710)
    have Hb10 := Lib.hid (Hb7.out.trans (hb710.mono Hb7.out.size))
    clear hb710 hb8 hb9 hb10 HA7 HA8 HA9 HR7 HF7 Hb7
    go_upto_region 12 with (go_at_call 24; refine (HRm.out _ (HS.out.keep HA10.out.below) (HT.out.keep HA10.out.below) (HK.out.keep HA10.out.below)).mono ?_; rintro e w11 ⟨A2, n2, c2, rfl, hn2, hR2, hb11⟩)
    have HA11 := Lib.hid (HA10.out.keep hb11)
    have HR11 := Lib.hid ((HR10.out.below hb11 (Nat.le_refl _)).more hb11.size)
    have HQ11 := Lib.hid hR2
    have HF11 := Lib.hid (HF10.out.below hb11)
    have Hb11 := Lib.hid (Hb10.out.trans (hb11.mono Hb10.out.size))
    have hnn : n2 = n := hn2.symm.trans Hn.out
    subst hnn
    have hn63 : n2 ≤ 9223372036854775807 := by have h1 := Hn.out; have h2 := HLn.out; have h3 := HT.out.dat.len.trans HT.out.tree.fl; omega
    have hMM : (M != M) = false := bne_self_eq_false M
    clear hb11 hn2 hR2 HA10 HR10 HF10 Hb10 b0 b1 b2 b3 b4 u0 u1 v0 v1
    obtain ⟨b0, b1, b2, b3, b4, u0, u1, v0, v1⟩ := HA11.out.cells HPv.out
    go_upto_region 14 with (first | (go_at_call 13; refine (num11 _ _).mono ?_; rintro e w8 ⟨rfl, hw⟩; rw [hw]; clear hw) | (go_at_call 18; refine (sameSrc_yes A A2 n2 _ _ L _ Hn.out HR11.out HQ11.out hn63).mono ?_; rintro e w12 ⟨rfl, hb12⟩))
    have HA12 := Lib.hid (HA11.out.keep hb12)
    have HF12 := Lib.hid (HF11.out.below hb12)
    have Hb12 := Lib.hid (Hb11.out.trans (hb12.mono Hb11.out.size))
    clear hb12 HA11 HR11 HQ11 HF11 Hb11 hMM b0 b1 b2 b3 b4 u0 u1 v0 v1 hn63
    obtain ⟨b0, b1, b2, b3, b4, u0, u1, v0, v1⟩ := HA12.out.cells HPv.out
    have hck1 := fun W (h : TreeAt W s) => rcheck_any s W h
    have hck2 := fun W (h : TreeAt W t) => rcheck_any t W h
    have hcc := HCc.out
    have HGood := Lib.hid (show C = 0 → Good s ∧ Good t from fun e => by
      rw [e] at hcc
      unfold checksE at hcc
      by_cases c : checkE s = 0
      · rw [if_neg (by simp [c])] at hcc
        exact ⟨good_of_loose (check_loose c), good_of_loose (check_loose hcc)⟩
      · rw [if_pos c] at hcc; exact absurd hcc c)
    unfold checksE at hcc
    obtain ⟨C1, hC1⟩ : ∃ C1, checkE s = C1 := ⟨_, rfl⟩
    obtain ⟨C2, hC2⟩ : ∃ C2, checkE t = C2 := ⟨_, rfl⟩
    rw [hC1] at hck1 hcc; rw [hC2] at hck2 hcc
    unfold TV.val at hck1 hck2
    have HC1 := Lib.hid hck1; have HC2 := Lib.hid hck2
    clear hck1 hck2 hC1 hC2 HCc
    go_upto_region 15 with (go_at_call 11; refine (HC1.out _ (HS.out.tree.keep HA12.out.below)).mono ?_; rintro e w13 ⟨rfl, hb13⟩)
    have HA13 := Lib.hid (HA12.out.keep hb13)
    have HF13 := Lib.hid (HF12.out.below hb13)
    have Hb13 := Lib.hid (Hb12.out.trans (hb13.mono Hb12.out.size))
    clear hb13 HA12 HF12 Hb12 b0 b1 b2 b3 b4 u0 u1 v0 v1
    obtain ⟨b0, b1, b2, b3, b4, u0, u1, v0, v1⟩ := HA13.out.cells HPv.out
    by_cases e1 : C1 = 0
    case neg =>
      rw [if_pos e1] at hcc
      subst hcc
      have f1 : (C1 == 0) = false := beq_eq_false_iff_ne.2 e1
      have f2 : (C1 != 0) = true := bne_iff_ne.2 e1
      have hf0 : fln = 0 := by have := HF13.out.dlen; rw [if_neg e1] at this; exact this.symm
      subst hf0
      have hcs : (C1 == C1) = true := beq_self_eq_true C1
      have HE := Lib.hid e1; clear e1
      go_wp2_with (go_at_call 13; refine (num11 _ _).mono ?_; rintro e w8 ⟨rfl, hw⟩; rw [hw]; clear hw)
      go_ret
      exact ⟨rfl, HA13.out.below⟩
    rw [if_neg (by simp [e1])] at hcc
    subst e1 hcc
    go_upto_region 17 with (go_at_call 11; refine (HC2.out _ (HT.out.tree.keep HA13.out.below)).mono ?_; rintro e w14 ⟨rfl, hb14⟩)
    have HA14 := Lib.hid (HA13.out.keep hb14)
    have HF14 := Lib.hid (HF13.out.below hb14)
    have Hb14 := Lib.hid (Hb13.out.trans (hb14.mono Hb13.out.size))
    clear hb14 HA13 HF13 Hb13 b0 b1 b2 b3 b4 u0 u1 v0 v1
    obtain ⟨b0, b1, b2, b3, b4, u0, u1, v0, v1⟩ := HA14.out.cells HPv.out
    by_cases e2 : C2 = 0
    case neg =>
      have f2 : (C2 != 0) = true := bne_iff_ne.2 e2
      have hf0 : fln = 0 := by have := HF14.out.dlen; rw [if_neg e2] at this; exact this.symm
      subst hf0
      have hcs : (C2 == C2) = true := beq_self_eq_true C2
      have HE := Lib.hid e2; clear e2
      go_wp2_with (go_at_call 13; refine (num11 _ _).mono ?_; rintro e w8 ⟨rfl, hw⟩; rw [hw]; clear hw)
      go_ret
      exact ⟨rfl, HA14.out.below⟩
    subst e2
    obtain ⟨fr, hfr⟩ : ∃ fr, freshL ds es = fr := ⟨_, rfl⟩
    have hrf := fun W (h1 : TreeD W s ds) (h2 : TreeD W t es) => rfresh_any s t ds es W h1 h2 (HGood.out rfl).1 (HGood.out rfl).2
    rw [hfr] at hrf
    unfold TV.val at hrf
    have HF14' := HF14.out
    rw [if_pos rfl, hfr] at HF14'
    have HRf := Lib.hid hrf; have HG14 := Lib.hid HF14'
    clear hrf HF14' hfr HF14
    go_upto_region 20 with (go_at_call 25; refine (HRf.out _ (HS.out.keep HA14.out.below) (HT.out.keep HA14.out.below)).mono ?_; rintro e w15 ⟨qA, qn, qc, qss, rfl, hQ, hb15⟩)
    have HA15 := Lib.hid (HA14.out.keep hb15)
    have HF15 := Lib.hid (HG14.out.below hb15).rowsFrom
    have Hb15 := Lib.hid (Hb14.out.trans (hb15.mono Hb14.out.size))
    have Hlow := Lib.hid (show ∀ (k : Nat) (x : SC) (g : Nat), fss[k]? = some x → blkOf x.A = some g → g < w14.heap.size from fun k x g hx hg => by
      obtain ⟨d, hd⟩ : ∃ d, fr[k]? = some d := ⟨_, List.getElem?_eq_getElem (by rw [HG14.out.dlen, ← HG14.out.len]; exact (List.getElem?_eq_some_iff.1 hx).1)⟩
      obtain ⟨g', cap', e, _, hc⟩ := HG14.out.row k x d hx hd
      subst e
      simp only [blkOf, Option.some.injEq] at hg
      subst hg
      exact hc.lt)
    have hqn : qn = fln := hQ.dlen.symm.trans HG14.out.dlen
    subst hqn
    have HQ := Lib.hid hQ
    clear hQ hb15 HA14 HG14 Hb14 b0 b1 b2 b3 b4 u0 u1 v0 v1 HC1 HC2 HRf HMat HFre HRm HSt1 HSt7 HGood
    have hfl63 := own_nm' HF15.out.own
    go_upto_region 22 with (go_at_call 13; refine (num11 _ _).mono ?_; rintro e w8 ⟨rfl, hw⟩; rw [hw]; clear hw)
    go_wp2
    go_loopw [17] (fun v wr => ∃ i : Nat, i ≤ qn ∧ v = .int .i64 i ∧ Below w6.heap.size w6 wr ∧ RowsFrom wr w6.heap.size i fA qn fcp fss fr ∧ ORows wr w14.heap.size qA qn qc qss fr) (fun v _ => qn - (intOf v).toNat)
    case atStart => exact ⟨0, Nat.zero_le _, rfl, Hb15.out, HF15.out, HQ.out⟩
    case round =>
      obtain ⟨i, hi, rfl, hbr, hF, hO⟩ := hrel
      have HBr := Lib.hid hbr; have HF := Lib.hid hF; have HO := Lib.hid hO
      clear hbr hF hO HF15 HQ Hb15 HA15
      by_cases hlt : i < qn
      case neg =>
        obtain rfl : i = qn := by omega
        have hii : ¬ ((i : Nat) : Int) < i := by omega
        have HA := Lib.hid (HA6.out.keep HBr.out)
        obtain ⟨b0, b1, b2, b3, b4, u0, u1, v0, v1⟩ := HA.out.cells HPv.out
        go_wp2_with (go_at_call 22; refine (HSt2.out _ HA.out).mono ?_; rintro e w16 ⟨rfl, hb16⟩)
        go_ret
        exact ⟨rfl, HA.out.below.trans (hb16.mono HA.out.below.size)⟩
      have hii : (i : Int) < qn := by omega
      obtain ⟨xb, xo, x, rfl, hxb, hx, hc⟩ := (Sl.of_own HF.out.own).get SC.len HF.out.len hlt
      obtain ⟨yb, yo, y, rfl, hyb, hy, hyc⟩ := (Sl.of_own HO.out.own).get SC.len HO.out.len hlt
      obtain ⟨d, hd⟩ : ∃ d, fr[i]? = some d := ⟨_, List.getElem?_eq_getElem (by rw [HF.out.dlen]; exact hlt)⟩
      obtain ⟨g, cap, rfl, hgb, hcv⟩ := HF.out.row i x d (Nat.le_refl _) hx hd
      obtain ⟨hyn, hyo⟩ := HO.out.row i y d hy hd
      have hdm : d.size ≤ 9223372036854775807 := by have := own_nm' hyo; omega
      have c0 := hc 0 _ rfl
      have d0 := hyc 0 _ rfl
      simp only [Nat.add_zero, Nat.mul_one] at c0 d0
      have SX := Lib.hid hcv.sl; have SY := Lib.hid (Sl.of_own hyo); have NY := Lib.hid hyn; have NX := Lib.hid (show d.size = d.size from rfl)
      have hs := Nat.le_refl wr.heap.size
      have HX := Lib.hid hx
      have HCv := Lib.hid hcv
      have hgl := Hlow.out i _ g hx rfl
      clear hc hyc hx hy hd hcv hyn hyo
      go_upto_region 25 with (fail)
      refine wp_region_ordB (none) [(0, true), (1, true), (2, true), (3, true), (4, true), (5, true), (6, true), (7, true), (8, true), (9, true), (10, true)] (by kernel_rfl) (by kernel_rfl) fun hG0 => ?_
      repeat (first
        | (refine ord_skipB rfl (by rfl) ?_; simp only [Act.put, List.setIfInBounds_toArray, List.set_cons_zero, List.set_cons_succ])
        | (first | (refine ord_qH rfl (by rfl) (fun w' hh => exec_conv rfl rfl (SX.out.held hs rfl hh) NX.out) ?_; simp only [Act.put, List.setIfInBounds_toArray, List.set_cons_zero, List.set_cons_succ]) | (refine ord_qH rfl (by rfl) (fun w' hh => exec_conv rfl rfl (SY.out.held hs rfl hh) NY.out) ?_; simp only [Act.put, List.setIfInBounds_toArray, List.set_cons_zero, List.set_cons_succ]))
        | (refine ord_qE rfl (by rfl) ?_; apply Exists.intro; refine ⟨fun w' hc' => ?_, ?_⟩; (focus (go_simp; (try go_bits); (try simp only [↓IntWalk.iteOmega]); with_reducible rfl)); simp only [Act.put, List.setIfInBounds_toArray, List.set_cons_zero, List.set_cons_succ]))
      refine ord_end ?_
      have hlx := Nat.lt_of_lt_of_le hxb hs
      obtain ⟨W0, hW0⟩ : ∃ W : World, wr.drew = W := ⟨_, rfl⟩
      have HB1 := Lib.hid (show Below w6.heap.size w6 W0 by rw [← hW0]; exact HBr.out.drew)
      have HF1 := Lib.hid (show RowsFrom W0 w6.heap.size (i + 1) _ qn fcp fss fr by rw [← hW0]; exact HF.out.next.drew)
      have HO1 := Lib.hid (show ORows W0 w14.heap.size _ qn qc qss fr by rw [← hW0]; exact HO.out.apart fun _ _ => rfl)
      have HU1 := Lib.hid (show BufAt W0 g d.size by rw [← hW0]; exact (HCv.out.keep rfl).buf)
      have c0 : W0.cell? ⟨xb, xo + i, none⟩ = some (.slice (some ⟨g, 0, none⟩) d.size cap) := by rw [← hW0]; exact c0
      rw [hW0]
      clear hW0 HBr HF HO HCv SX SY NX NY hs d0 hG0 hlx
      go_wp2
      go_loopw [18] (fun v wr => ∃ j : Nat, j ≤ d.size ∧ v = .int .i64 j ∧ Below w6.heap.size w6 wr ∧ RowsFrom wr w6.heap.size (i + 1) (some ⟨xb, xo, none⟩) qn fcp fss fr ∧ ORows wr w14.heap.size (some ⟨yb, yo, none⟩) qn qc qss fr ∧ BufAt wr g d.size) (fun v _ => d.size - (intOf v).toNat)
      case atStart => exact ⟨0, Nat.zero_le _, rfl, HB1.out, HF1.out, HO1.out, HU1.out⟩
      case round =>
        obtain ⟨j, hj, rfl, hbr, hF, hO, hU⟩ := hrel
        clear c0 HB1 HF1 HO1 HU1
        obtain ⟨xb2, xo2, x2, hA2, hxb2, hx2, hc2⟩ := (Sl.of_own hF.own).get SC.len hF.len hlt
        injection hA2 with hA2
        injection hA2 with q1 q2
        subst q1 q2
        obtain rfl : x2 = ⟨some ⟨g, 0, none⟩, d.size, cap⟩ := by rw [HX.out] at hx2; injection hx2 with h; exact h.symm
        have c0 := hc2 0 _ rfl
        simp only [Nat.add_zero, Nat.mul_one] at c0
        clear hx2 hc2
        by_cases hjl : j < d.size
        · have hji : (j : Int) < d.size := by omega
          obtain ⟨b, q0⟩ := hU.cell hjl
          have q0f := hU.frozen hjl
          have hgw := hU.lt
          have HBv := Lib.hid (fun v => (hbr.setCell (p := ⟨g, j, none⟩) hgb v).drew)
          have HFv := Lib.hid (fun v => (hF.set (j := j) HX.out (Nat.lt_succ_self i) hU v).drew)
          have HOv := Lib.hid (fun v => hO.apart (W' := (wr.setCell ⟨g, j, none⟩ v).drew) fun k hk => heap_setCell_other wr ⟨g, j, none⟩ k v (fun e => by have e' : k = g := e; omega))
          have HUv := Lib.hid (fun x => show BufAt (wr.setCell ⟨g, j, none⟩ (.int .u8 x)).drew g d.size from hU.set (x := x))
          clear hbr hF hO hU
          go_upto_region 30 with (fail)
          refine wp_region_ordG (none) [(0, true), (1, true), (2, true), (3, true), (4, true), (5, true), (6, true), (7, true), (8, true), (9, true), (10, true), (11, true), (12, true), (13, true)] 14 (by kernel_rfl) (by kernel_rfl) fun hG0 => ?_
          repeat (first
            | (refine ord_skipB rfl (by rfl) ?_; simp only [Act.put, List.setIfInBounds_toArray, List.set_cons_zero, List.set_cons_succ])
            | (first | (refine ord_qH rfl (by rfl) (fun w' hh => exec_conv rfl rfl (SX.out.held hs rfl hh) NX.out) ?_; simp only [Act.put, List.setIfInBounds_toArray, List.set_cons_zero, List.set_cons_succ]) | (refine ord_qH rfl (by rfl) (fun w' hh => exec_conv rfl rfl (SY.out.held hs rfl hh) NY.out) ?_; simp only [Act.put, List.setIfInBounds_toArray, List.set_cons_zero, List.set_cons_succ]))
            | (refine ord_qE rfl (by rfl) ?_; apply Exists.intro; refine ⟨fun w' hc' => ?_, ?_⟩; (focus (go_simp; (try go_bits); (try simp only [↓IntWalk.iteOmega]); with_reducible rfl)); simp only [Act.put, List.setIfInBounds_toArray, List.set_cons_zero, List.set_cons_succ]))
          refine ord_tail rfl fun K hK => ?_
          go_wp2_with (fail)
          refine hK.out _ _ ?_
          clear hK K
          clear q0 q0f c0 hG0
          go_wp2
          go_roundw
          case rel => exact ⟨j + 1, by omega, by go_num, HBv.out _, HFv.out _, HOv.out _, HUv.out _⟩
          case measure => simp [intOf]; omega
        · have hji : ¬ (j : Int) < d.size := by omega
          have HBv := Lib.hid hbr; have HFv := Lib.hid hF; have HOv := Lib.hid hO
          clear hbr hF hO hU
          go_wp2
          go_roundw
          case rel => exact ⟨i + 1, by omega, by go_num, HBv.out, HFv.out, HOv.out⟩
          case measure => simp [intOf]; omega

set_option maxRecDepth 100000 in
theorem lifted (os : Os) (started : os.Started) (H : Type) (enc : TypeId × Value → H) (F : Stop.Interp) :
    ReturnsInHanded {} Try.checked os 7 .any ((Rows.OpenSpec.upto Rows.matchSaysSpec).pre6 enc Try.prog Try.f7 Rows.matchSaysUptoRow.domain false) (((Rows.OpenSpec.upto Rows.matchSaysSpec).at F).post enc Try.prog Try.f7 false true false false) := by
  refine returnsInHanded_of_cond (C := Try.checked) (s := Rows.OpenSpec.upto Rows.matchSaysSpec) (k := Rows.uptoSmall) rfl own started (by kernel_rfl) Try.func7
    (OpenSpec.witness (enc := enc) (C := Try.checked) (s := Rows.OpenSpec.upto Rows.matchSaysSpec) (k := Rows.uptoSmall) rfl false ⟨#[], #[.agg #[.slice none 0 0, .slice none 0 0, .slice none 0 0, .slice none 0 0, .slice none 0 0]], []⟩ 8 (by kernel_rfl) (by kernel_rfl) (by kernel_rfl)
      (x := ([.agg [.agg [.nil, .nil], .agg [.nil, .nil], .nil]], [], [])) (by kernel_rfl) rfl (by kernel_rfl)) ?_
  intro W base args ds gs before hval0 hW hcnd hk _
  have hval : ∀ (j : Nat) t v, Try.f7.params[j]? = some t → args[j]? = some v → Value.okWide Try.prog W .any base t v := hval0
  have hW' := hW
  obtain ⟨p, q, hA0, hV, rfl, hfz, hnd⟩ := hW
  have hA : DataW.TrodAll enc Try.prog W 0 (fun _ => true) true Try.f7.params.toList args.toList ds p := hA0
  rw [Try.params7] at hA hval
  obtain ⟨v0, vs0, d0, ds0, p0, q0, hargs, rfl, rfl, h0, r0⟩ := trodAll_cons hA
  obtain ⟨rfl, rfl, rfl⟩ := trodAll_nil r0
  obtain rfl : args = #[v0] := by cases args; simp_all
  obtain ⟨rfl, rfl⟩ := trodVars_none hV
  have k0 := h0
  have lt0 : ∀ x ∈ p0, x.block < W.heap.size := by obtain ⟨m, hm⟩ := k0; exact DataW.trod_lt m _ _ _ hm
  obtain ⟨s0, dS0, t0, eT0, SA0, sn0, sc0, ss0, sd0, rfl, hS0, hT0, hK0, hb0, hbt0, hbn0, hbs0⟩ := open_pair (hval 0 38 v0 rfl rfl) h0 lt0
  have hbulk : Rows.uptoBulkAll [d0] ≤ 1048576 := of_decide_eq_true hk
  simp only [Rows.uptoBulkAll] at hbulk
  clear hA0 hval0
  refine (walk s0 dS0 t0 eT0 SA0 sn0 sc0 ss0 sd0 W hS0 hT0 hK0 (fun x hx => by have := hb0 x hx; omega) (fun x hx => by have := hbt0 x hx; omega) (by omega) (fun x hx => by have := hbs0 x hx; omega)).mono fun e W' ⟨he, bel⟩ => ?_
  subst he
  exact ⟨_, rfl, _, _, _, [], _, [], hW', trodAll_mk1 (shut_bool Try.underlying4 _), (trodAll_cons_mk (Below.trod laidOut (by kernel_rfl) (of_decide_eq_true (by kernel_rfl)) k0 bel lt0) trodAll_mk0), rfl, bel.frame _, fun h => by cases h⟩

theorem over : Rows.matchSaysUptoRow.holds Try.pinned (Rows.OpenSpec.upto Rows.matchSaysSpec) :=
  OpenClaim.holds_of_cond 7 Try.f7 rfl rfl rfl rfl rfl rfl rfl ⟨rfl, rfl, rfl, rfl, rfl⟩ rfl rfl rfl rfl rfl (by kernel_rfl) Try.func7 (by kernel_rfl)
    (of_decide_eq_true (by kernel_rfl)) (by unfold Func.isWrapper; first | (rw [if_pos (by decide +kernel)]; kernel_rfl) | (rw [if_neg (by decide +kernel)]; exact ⟨rfl, rfl⟩))
    (fun os started H enc _ F => lifted os started H enc F)

theorem proved : Rows.MatchSaysUptoSaid := over
#print axioms proved
end Go.Proofs.Ytcnpncieibmngaa.matchSaysDone
