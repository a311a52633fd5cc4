/- shuntlaw19.alive, num. -/
import Derived.Test.YtgeiegjpnnbloaaDoorDecode
namespace Go.Proofs.YtgeiegjpnnbloaaDoor
open Go.ChangeShapes Go.WideShapes Go.ChangeAt Go.ChangeMaps Go.RowKit Go.Deep

theorem num19 (x : Int) (w : World) : Calls Tryd.prog 9 #[.int .i64 x] w fun r w' => r = .returned (.int .i64 x) ∧ w' = w := by
  go_enter Tryd.func9, Tryd.ntmps9
  go_wp2
  go_ret
  exact ⟨rfl, rfl⟩
theorem zero_at (w : World) : ScrAt w zeroScr :=
  ⟨by simp [zeroScr, zero32], by simp [zeroScr, zero32], by decide, by decide, rfl, rfl, Sl.nil _ _ _ _, Sl.nil _ _ _ _, Nat.zero_le _, Nat.zero_le _, fun r hr => nomatch hr⟩
theorem zero_chk : chkS zeroScr = 0 := by decide
theorem zero_len : (encL zeroScr).length = 85 := by
  unfold encL bodyE headL zeroScr zero32
  simp [leB_len, markL]
theorem zero_take : (encL zeroScr).take 4 = [115, 104, 110, 116] ∧ (encL zeroScr)[4]? = some 1 := by
  unfold encL bodyE headL markL
  simp
theorem zero_enc (w : World) : Calls Tryd.prog 11 #[.agg Tryd.zeroCells30] w (EncRes zeroScr 0 w) := by
  rw [zero_cells]
  refine encode_ok zeroScr w (zero_at w) rfl (Nat.zero_le _) (fun x hx => nomatch hx) (fun W hW => ?_)
  have := check_sync zeroScr (fun x hx => nomatch hx) rfl W (zero_at W)
  rw [zero_chk] at this
  exact this
set_option maxRecDepth 100000 in
set_option maxHeartbeats 4000000 in
theorem alive19 (a0 a1 a2 : Addr) (w : World) (hE : ErrsAt w a0 a1 a2) : Calls Tryd.prog 6 #[] w fun e w' => e = .returned (.bool true) ∧ Below w.heap.size w w' := by
  have HE := Lib.hid hE
  have hone := Scr.one zeroScr
  have hzs : Tryd.zeroCells30.size = 67 := by rw [zero_cells]; exact zsize
  have hz67 := zsize
  clear hE
  go_enter Tryd.func6, Tryd.ntmps6
  go_upto_region 3 with (first | (go_at_call 11; refine (zero_enc _).mono ?_; rintro e w1 ⟨A, m, c, rfl, _, hok, hb1⟩) | (go_at_call 7; refine (decode_short none 0 0 a0 a1 a2 _ (HE.out.keep hb1) (by omega)).mono ?_; rintro e w2 ⟨rfl, hb2⟩) | (refine wpList_store_blk rfl 30 (.tmp 3) (.tmp 12) rfl (Blk.new w2 30 Tryd.zeroCells30) zeroScr.C rfl rfl (by rw [hz67]; kernel_rfl) (by rw [hzs, hz67]) hone ?_; intro w3 hB3 hg3 hs3))
  obtain ⟨rfl, ho⟩ := hok (by first | rfl | trivial)
  rw [zero_len] at ho ⊢
  have hb13 : Below w1.heap.size w1 w3 := hb2.trans (((Below.refl _ _).alloc (Nat.le_refl _) (.cells Tryd.zeroCells30 30) |>.trans (below_grown hg3 (by simp) (fun q e => by injection e with e; omega))).mono hb2.size)
  have ho3 := own_keep ho (fun q o e => hb13.block q (own_in ho q o e))
  obtain ⟨g, rfl⟩ : ∃ g, A = some ⟨g, 0, none⟩ := by
    rcases ho3.2 with ⟨h', _⟩ | ⟨g', cap, cur, hv, _⟩
    · injection h' with _ h2
      omega
    · injection hv with hA
      exact ⟨g', hA⟩
  obtain ⟨hrow, _, hgl, hnc, _⟩ := own_row ho3
  have hc4 : (4 : Int) ≤ c := by omega
  have hc40 : 4 ≤ c := by omega
  have hsl := (Sl.of_own ho3).first (k := 4) (by omega)
  rw [Nat.mul_one, u8_take, zero_take.1] at hsl
  have ks := run_conv (c := c) (d := ⟨#[115, 104, 110, 116]⟩) (show Sl w3 w3.heap.size 1 (some ⟨g, 0, none⟩) 4 _ from hsl) rfl
  have k4 : w3.cell? ⟨g, 4, none⟩ = some (.int .u8 1) := by
    have := hrow 4 (.int .u8 1) (by
      have h1 : ((encL zeroScr).flatMap u8L)[4]? = some (.int .u8 ((1 : UInt8).toNat : Nat)) := by
        rw [← map_u8, List.getElem?_map, zero_take.2]
        rfl
      exact h1)
    simpa using this
  have hbw : Below w.heap.size w w3 := hb1.trans (hb13.mono hb1.size)
  clear hok ho ho3 hrow hsl hb13 hb1 hb2 hg3 hB3 hs3
  go_wp2_with (go_at_call 9; refine (num19 _ _).mono ?_; rintro e w7 ⟨rfl, hw⟩; rw [hw]; clear hw)
  go_ret
  exact ⟨rfl, hbw⟩
end Go.Proofs.YtgeiegjpnnbloaaDoor
