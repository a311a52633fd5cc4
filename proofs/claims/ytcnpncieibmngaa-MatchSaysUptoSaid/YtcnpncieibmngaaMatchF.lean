/- match.checked, match.contents, stock.Check: the small functions of match. -/
import Derived.Test.YtcnpncieibmngaaMatchQ
import Derived.Test.YtcnpncieibmngaaOpenS
namespace Go.Proofs.Ytcnpncieibmngaa
open Go.RowKit Go.Shelf

def checksE (s t : TV) : Int := if checkE s ≠ 0 then checkE s else checkE t
set_option maxHeartbeats 1000000 in
theorem checked_any (s t : TV) (w : World) (hs : TreeAt w s) (ht : TreeAt w t) : Calls Try.prog 31 #[s.val, t.val] w (IntRes (checksE s t) w) := by
  have HS := Lib.hid hs; have HT := Lib.hid ht
  have hE : checksE s t = if checkE s ≠ 0 then checkE s else checkE t := rfl
  have hcs := fun W (h : TreeAt W s) => check_any s W h
  have hct := fun W (h : TreeAt W t) => check_any t W h
  clear hs ht
  have hB := (Blk.new w 25 #[.slice s.NA s.nn s.nc, .slice s.FA s.fn s.fc]).alloc (.cells #[.slice t.NA t.nn t.nc, .slice t.FA t.fn t.fc] 25)
  have hC := Blk.new (w.alloc (.cells #[.slice s.NA s.nn s.nc, .slice s.FA s.fn s.fc] 25)) 25 #[.slice t.NA t.nn t.nc, .slice t.FA t.fn t.fc]
  have hb := ((Below.refl w.heap.size w).alloc (Nat.le_refl _) (.cells #[.slice s.NA s.nn s.nc, .slice s.FA s.fn s.fc] 25)).alloc (by simp) (.cells #[.slice t.NA t.nn t.nc, .slice t.FA t.fn t.fc] 25)
  rw [World.size_alloc] at hC
  have b0 := hB.cell 0; have b1 := hB.cell 1
  have hbs := hb.size
  unfold TV.val at hcs hct ⊢
  obtain ⟨E, hEs⟩ : ∃ E, checkE s = E := ⟨_, rfl⟩
  obtain ⟨F, hFt⟩ : ∃ F, checkE t = F := ⟨_, rfl⟩
  obtain ⟨R, hR⟩ : ∃ R, checksE s t = R := ⟨_, rfl⟩
  rw [hEs] at hcs
  rw [hFt] at hct
  rw [hR, hEs, hFt] at hE
  rw [hR]
  have HCS := Lib.hid hcs; have HCT := Lib.hid hct
  clear hcs hct hEs hFt hR
  by_cases h0 : E = 0
  · rw [if_neg (by simp [h0])] at hE
    subst h0
    have HE := Lib.hid hE; clear hE
    go_enter Try.func31, Try.ntmps31
    have tok1 : True := trivial
    go_wp2_with (first | (have _t := tok1; go_at_call 47; refine (HCS.out _ (HS.out.keep hb)).mono ?_; rintro e w1 ⟨rfl, hb1⟩; replace hC := hC.below hb1 hC.lt; replace hb := hb.trans (hb1.mono hbs); have c0 := hC.cell 0; have c1 := hC.cell 1; clear tok1 _t) | (go_at_call 47; refine (HCT.out _ (HT.out.keep hb)).mono ?_; rintro e w2 ⟨rfl, hb2⟩; replace hb := hb.trans (hb2.mono hb.size)))
    go_ret
    exact ⟨congrArg (fun x => Ending.returned (.int .i64 x)) HE.out.symm, hb⟩
  · rw [if_pos h0] at hE
    have hne := bne_iff_ne.2 h0
    have HE := Lib.hid hE; clear hE h0
    go_enter Try.func31, Try.ntmps31
    go_wp2_with (go_at_call 47; refine (HCS.out _ (HS.out.keep hb)).mono ?_; rintro e w1 ⟨rfl, hb1⟩; replace hb := hb.trans (hb1.mono hbs))
    go_ret
    exact ⟨congrArg (fun x => Ending.returned (.int .i64 x)) HE.out.symm, hb⟩
set_option maxHeartbeats 2000000 in
theorem stock_any (SA : Option Addr) (sn sc : Nat) (ss : List SC) (sd : List ByteArray) (w : World) (h : StockAt w SA sn ss sd) : Calls Try.prog 32 #[.slice SA sn sc] w (IntRes (stockE sd) w) := by
  have hsl := h.sl
  have hlen := h.len
  have hdl := h.dlen
  have hm := h.nm
  have HS := Lib.hid hsl; have Hn := Lib.hid hlen; have HD := Lib.hid h.dat; have Hdl := Lib.hid hdl
  clear hsl hlen h
  obtain ⟨R, hR⟩ : ∃ R, stockE sd = R := ⟨_, rfl⟩
  rw [hR]
  unfold stockE at hR
  rw [hdl] at hR
  clear hdl
  by_cases h1 : 65535 < sn
  · rw [if_pos h1] at hR
    have hi : (65535 : Int) < sn := by omega
    subst hR
    go_enter Try.func32, Try.ntmps32
    go_wp2
    go_ret
    exact ⟨rfl, Below.refl _ _⟩
  · rw [if_neg h1] at hR
    have hi : ¬ (65535 : Int) < sn := by omega
    have HR := Lib.hid hR; clear hR
    go_enter Try.func32, Try.ntmps32
    go_wp2
    go_loop [3, 11] (fun v i => ∃ (k left : Nat), k ≤ sn ∧ i = .int .i64 k ∧ v = .int .i64 left ∧ left ≤ 65536 ∧ stockRun sd 65536 = stockRun (sd.drop k) left) (fun _ i => sn - (intOf i).toNat)
    case atStart => exact ⟨0, 65536, Nat.zero_le _, rfl, rfl, Nat.le_refl _, rfl⟩
    case round =>
      obtain ⟨k, left, hk, rfl, rfl, hle, hrun⟩ := hrel
      by_cases hlt : k < sn
      · have hki : (k : Int) < sn := by omega
        obtain ⟨b, o, x, rfl, hbl, hx, hc⟩ := HS.out.get SC.len Hn.out hlt
        have c0 := hc 0 _ rfl
        simp only [Nat.add_zero, Nat.mul_one] at c0
        obtain ⟨d, hd⟩ : ∃ d, sd[k]? = some d := ⟨_, List.getElem?_eq_getElem (by rw [Hdl.out]; exact hlt)⟩
        have hdn := (HD.out k x d hx hd).1
        rw [drop_at' hd, stockRun, hdn] at hrun
        clear hc hx hd hdn
        by_cases g1 : 8192 < x.n
        · have gi : (8192 : Int) < x.n := by omega
          rw [if_pos (.inl g1)] at hrun
          have Hrun := Lib.hid hrun; clear hrun
          go_wp2
          go_ret
          exact ⟨by rw [← HR.out, Hrun.out]; rfl, Below.refl _ _⟩
        · have gi : ¬ (8192 : Int) < x.n := by omega
          by_cases g2 : left < x.n
          · have gj : (left : Int) < x.n := by omega
            rw [if_pos (.inr g2)] at hrun
            have Hrun := Lib.hid hrun; clear hrun
            go_wp2
            go_ret
            exact ⟨by rw [← HR.out, Hrun.out]; rfl, Below.refl _ _⟩
          · have gj : ¬ (left : Int) < x.n := by omega
            rw [if_neg (by omega)] at hrun
            have Hrun := Lib.hid hrun; clear hrun
            go_wp2
            go_round
            case rel => exact ⟨k + 1, left - x.n, by omega, by go_num, by go_num, by omega, Hrun.out⟩
            case measure => simp [intOf]; omega
      · obtain rfl : k = sn := by omega
        have hki : ¬ (k : Int) < k := by omega
        rw [List.drop_of_length_le (by rw [Hdl.out]; exact Nat.le_refl _), stockRun] at hrun
        have Hrun := Lib.hid hrun; clear hrun
        go_wp2
        go_ret
        exact ⟨by rw [← HR.out, Hrun.out]; rfl, Below.refl _ _⟩
end Go.Proofs.Ytcnpncieibmngaa
