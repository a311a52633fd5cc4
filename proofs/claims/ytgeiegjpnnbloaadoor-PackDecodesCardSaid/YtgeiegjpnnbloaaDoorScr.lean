/- api.Script as data; pack.Check of scripts that only sync. -/
import Derived.Test.YtgeiegjpnnbloaaDoorRecord
import Derived.Test.YtgeiegjpnnbloaaDoorTrunc
import Derived.Test.YtgeiegjpnnbloaaDoorMapV
import Derived.ChangeMaps5
import Derived.Deep.DeepCutAuto
namespace Go.Proofs.YtgeiegjpnnbloaaDoor
open Go.ChangeShapes Go.WideShapes Go.ChangeAt Go.ChangeMaps Go.RowKit Go.Deep

structure Scr where
  frm : List UInt8
  goal : List UInt8
  pb : Int
  pi : Int
  ins : List Ins
  refs : List (Int × List UInt8)
  IA : Option Addr
  il : Nat
  ic : Nat
  RA : Option Addr
  rl : Nat
  rc : Nat
def Scr.L (s : Scr) : List Value := s.frm.flatMap u8L ++ (s.goal.flatMap u8L ++ [.complex .f64 (F s.pb) (F s.pi), .slice s.IA s.il s.ic, .slice s.RA s.rl s.rc])
def Scr.C (s : Scr) : Array Value := s.L.toArray
def refC (r : Int × List UInt8) : List Value := .int .i64 r.1 :: r.2.flatMap u8L
theorem u8_len (l : List UInt8) : (l.flatMap u8L).length = l.length := by rw [← map_u8]; simp
structure ScrAt (w : World) (s : Scr) : Prop where
  fl : s.frm.length = 32
  gl : s.goal.length = 32
  pb : s.pb.natAbs < 2 ^ 53
  pi : s.pi.natAbs < 2 ^ 53
  il : s.ins.length = s.il
  rl : s.refs.length = s.rl
  is : Sl w w.heap.size 5 s.IA s.il (insL s.ins)
  rs : Sl w w.heap.size 33 s.RA s.rl (s.refs.flatMap refC)
  im : s.il ≤ maxLen
  rm : s.rl ≤ maxLen
  r32 : ∀ r ∈ s.refs, r.2.length = 32
theorem ScrAt.keep {w w' : World} {s : Scr} (h : ScrAt w s) (hb : Below w.heap.size w w') : ScrAt w' s :=
  { h with is := (h.is.below hb (Nat.le_refl _)).more hb.size, rs := (h.rs.below hb (Nat.le_refl _)).more hb.size }
theorem Scr.size {s : Scr} (h1 : s.frm.length = 32) (h2 : s.goal.length = 32) : s.C.size = 67 := by
  unfold Scr.C Scr.L
  simp only [List.size_toArray, List.length_append, u8_len, h1, h2, List.length_cons, List.length_nil]
theorem Scr.cell {s : Scr} (h1 : s.frm.length = 32) (h2 : s.goal.length = 32) : s.C[64]? = some (.complex .f64 (F s.pb) (F s.pi)) ∧ s.C[65]? = some (.slice s.IA s.il s.ic) ∧ s.C[66]? = some (.slice s.RA s.rl s.rc) := by
  have e1 : (s.frm.flatMap u8L).length = 32 := by rw [u8_len, h1]
  have e2 : (s.goal.flatMap u8L).length = 32 := by rw [u8_len, h2]
  have key : ∀ k, s.C[64 + k]? = [.complex .f64 (F s.pb) (F s.pi), .slice s.IA s.il s.ic, .slice s.RA s.rl s.rc][k]? := fun k => by
    unfold Scr.C Scr.L
    rw [List.getElem?_toArray, List.getElem?_append_right (by omega), List.getElem?_append_right (by omega)]
    congr 1
    omega
  exact ⟨key 0, key 1, key 2⟩
def syncI : Ins := ⟨9, ByteArray.empty, ByteArray.empty, 0, 0⟩
theorem fields_9 (w : World) : Calls Tryd.prog 42 #[.int .i64 9] w fun e w' => e = .returned (.tuple #[.bool false, .bool false, .bool false, .bool false, .bool true]) ∧ w' = w := by
  go_enter Tryd.func42, Tryd.ntmps42
  go_wp2
  exact bodyPost_ret (by simp [results, Tryd.f42]) rfl ⟨rfl, rfl⟩
set_option maxRecDepth 100000 in
set_option maxHeartbeats 4000000 in
theorem check_one (w : World) : Calls Tryd.prog 35 #[.agg syncI.cells] w fun e w' => e = .returned (.int .i64 0) ∧ Below w.heap.size w w' := by
  unfold Ins.cells syncI
  have hB := Blk.new w 42 #[.int .i64 9, .string ByteArray.empty, .string ByteArray.empty, .int .i64 0, .int .i64 0]
  have b0 := hB.cell 0; have b1 := hB.cell 1; have b2 := hB.cell 2; have b3 := hB.cell 3; have b4 := hB.cell 4
  have hl := hB.lt
  go_enter Tryd.func35, Tryd.ntmps35
  go_wp2_with (go_at_call 42; refine (fields_9 _).mono ?_; rintro e w1 ⟨rfl, hw⟩; rw [hw]; clear hw)
  go_ret
  exact ⟨rfl, (Below.refl _ _).alloc (Nat.le_refl _) _⟩
theorem Tryd.mtII : MT 84 3 3 (.int .i64 0) := ⟨Tryd.underlying84, fun w => by kernel_rfl⟩
def chkS (s : Scr) : Int := if 4096 < s.il then 2 else if okPart s.pb = true ∧ okPart s.pi = true then 0 else 3
set_option maxRecDepth 100000 in
set_option maxHeartbeats 4000000 in
theorem check_sync (s : Scr) (hs : ∀ x ∈ s.ins, x = syncI) (hr : s.rl = 0) (w : World) (h : ScrAt w s) : Calls Tryd.prog 18 #[.agg s.C] w fun e w' => e = .returned (.int .i64 (chkS s)) ∧ Below w.heap.size w w' := by
  have hB := Blk.new w 30 s.C
  have hb := (Below.refl w.heap.size w).alloc (Nat.le_refl _) (.cells s.C 30)
  obtain ⟨c64, c65, c66⟩ := Scr.cell h.fl h.gl
  have b64 := (hB.cell 64).trans c64; have b65 := (hB.cell 65).trans c65; have b66 := (hB.cell 66).trans c66
  have hl := hB.lt
  have HS := Lib.hid hs; have H := Lib.hid h
  have hp1 := fun w => part_any s.pb h.pb w
  have hp2 := fun w => part_any s.pi h.pi w
  have HI := Lib.hid h.is; have HIl := Lib.hid h.il
  have him := h.im
  obtain ⟨R, hR⟩ : ∃ R, chkS s = R := ⟨_, rfl⟩
  rw [hR]
  unfold chkS at hR
  obtain ⟨C, hC⟩ : ∃ C, s.C = C := ⟨_, rfl⟩
  obtain ⟨x, hx⟩ : ∃ x, F s.pb = x := ⟨_, rfl⟩
  obtain ⟨y, hy⟩ : ∃ x, F s.pi = x := ⟨_, rfl⟩
  obtain ⟨p, hp⟩ : ∃ x, okPart s.pb = x := ⟨_, rfl⟩
  obtain ⟨q, hq⟩ : ∃ x, okPart s.pi = x := ⟨_, rfl⟩
  obtain ⟨IA, hIA⟩ : ∃ x, s.IA = x := ⟨_, rfl⟩
  obtain ⟨n, hn⟩ : ∃ x, s.il = x := ⟨_, rfl⟩
  obtain ⟨ic, hic⟩ : ∃ x, s.ic = x := ⟨_, rfl⟩
  obtain ⟨xs, hxs⟩ : ∃ x, s.ins = x := ⟨_, rfl⟩
  rw [hC] at hB hb hl b64 b65 b66 ⊢
  rw [hx] at b64 hp1
  rw [hy] at b64 hp2
  rw [hp] at hp1 hR
  rw [hq] at hp2 hR
  rw [hIA, hn, hic] at b65
  rw [hr] at b66
  rw [hIA, hn, hxs] at HI
  rw [hn] at hR him HIl
  rw [hxs] at HIl HS
  have HP1 := Lib.hid hp1; have HP2 := Lib.hid hp2
  clear hp1 hp2 hC hx hy hp hq hIA hn hic hxs hs h H c64 c65 c66 hr
  by_cases h1 : (4096 : Int) < n
  · rw [if_pos (by omega)] at hR
    subst hR
    go_enter Tryd.func18, Tryd.ntmps18
    go_wp2
    go_ret
    exact ⟨rfl, hb⟩
  rw [if_neg (by omega)] at hR
  cases p with
  | false =>
    rw [if_neg (by simp)] at hR
    subst hR
    go_enter Tryd.func18, Tryd.ntmps18
    go_wp2_with (first | (go_at_call 34; with_reducible refine (HP1.out _).mono ?_; rintro e w1 ⟨rfl, hw⟩; rw [hw]; clear hw))
    go_ret
    exact ⟨rfl, hb⟩
  | true =>
    cases q with
    | false =>
      rw [if_neg (by simp)] at hR
      subst hR
      go_enter Tryd.func18, Tryd.ntmps18
      have tok : True := trivial
      go_wp2_with (first | (go_at_call 34; have _t := tok; clear tok _t; refine (HP1.out _).mono ?_; rintro e w1 ⟨rfl, hw⟩; rw [hw]; clear hw) | (go_at_call 34; refine (HP2.out _).mono ?_; rintro e w1 ⟨rfl, hw⟩; rw [hw]; clear hw))
      go_ret
      exact ⟨rfl, hb⟩
    | true =>
      rw [if_pos ⟨rfl, rfl⟩] at hR
      subst hR
      have hmm := @run_makeMap Tryd.prog
      have tok : True := trivial
      go_enter Tryd.func18, Tryd.ntmps18
      go_upto_region 6 with (first | (go_at_call 34; have _t := tok; clear tok _t; refine (HP1.out _).mono ?_; rintro e w1 ⟨rfl, hw⟩; rw [hw]; clear hw) | (go_at_call 34; refine (HP2.out _).mono ?_; rintro e w1 ⟨rfl, hw⟩; rw [hw]; clear hw))
      obtain ⟨W, hW⟩ : ∃ W, W = (w.alloc (.cells C 30)).alloc (.map #[] 0) := ⟨_, rfl⟩
      have hBW : Blk W w.heap.size 30 C := by rw [hW]; exact hB.alloc _
      have hMW : MapV intK W (w.heap.size + 1) [] := by rw [hW]; have := MapV.new (T := intK) (w.alloc (.cells C 30)); rw [World.size_alloc] at this; exact this
      have hbW : Below w.heap.size w W := by rw [hW]; exact hb.alloc (by simp) _
      have g66 : C[66]? = some (.slice s.RA 0 s.rc) := (hB.cell 66).symm.trans b66
      have g65 : C[65]? = some (.slice IA n ic) := (hB.cell 65).symm.trans b65
      rw [← hW]
      clear hW hB hb hl b64 b65 b66 HP1 HP2 hmm
      have b65 := (hBW.cell 65).trans g65
      have hl := hBW.lt
      have hWs := hbW.size
      go_wp2
      go_loopw [32] (fun v wr => ∃ k : Nat, k ≤ n ∧ v = .int .i64 k ∧ Below W.heap.size W wr) (fun v _ => n - (intOf v).toNat)
      case atStart => exact ⟨0, Nat.zero_le _, rfl, Below.refl _ _⟩
      case round =>
      obtain ⟨k, hk, rfl, hbr⟩ := hrel
      have Hbr := Lib.hid hbr
      have hrs := hbr.size
      by_cases hlt : k < n
      · have hki : (k : Int) < n := by omega
        obtain ⟨tb, to', z, rfl, htb, hz, hcz⟩ := (HI.out.below (hbW.trans (hbr.mono hWs)) (Nat.le_refl _)).get (f := Ins.list) (fun _ => rfl) HIl.out hlt
        obtain rfl := HS.out z (List.mem_of_getElem? hz)
        have a0 := hcz 0 _ rfl; have a1 := hcz 1 _ rfl; have a2 := hcz 2 _ rfl; have a3 := hcz 3 _ rfl; have a4 := hcz 4 _ rfl
        simp only [Nat.add_zero, syncI] at a0 a1 a2 a3 a4
        have htl : tb < wr.heap.size := by omega
        clear hcz hz htb hbr b65
        go_upto_region 9 with (refine wpList_store_new rfl _ _ _ rfl _ _ _ rfl rfl (by kernel_rfl) (by rfl) (by kernel_rfl) ?_)
        have hN := Blk.new wr 42 #[.int .i64 9, .string ByteArray.empty, .string ByteArray.empty, .int .i64 0, .int .i64 0]
        have hbn := Hbr.out.alloc hrs (.cells #[.int .i64 9, .string ByteArray.empty, .string ByteArray.empty, .int .i64 0, .int .i64 0] 42)
        obtain ⟨W2, hW2⟩ : ∃ W2, W2 = wr.alloc (.cells #[.int .i64 9, .string ByteArray.empty, .string ByteArray.empty, .int .i64 0, .int .i64 0] 42) := ⟨_, rfl⟩
        rw [← hW2] at hN hbn ⊢
        have Hbn := Lib.hid hbn
        clear hW2 a0 a1 a2 a3 a4 htl hbn
        have n0 := hN.cell 0; have n1 := hN.cell 1; have n2 := hN.cell 2; have n3 := hN.cell 3; have n4 := hN.cell 4
        have hNl := hN.lt
        go_wp2_with (go_at_call 35; refine (check_one _).mono ?_; rintro e w3 ⟨rfl, hb3⟩; have n0' := (hN.below hb3 hNl).cell 0; have hN3 := (hN.below hb3 hNl).lt; clear n0 n1 n2 n3 n4)
        go_roundw
        case rel => exact ⟨k + 1, by omega, by go_num, Hbn.out.trans (hb3.mono Hbn.out.size)⟩
        case measure => simp [intOf]; omega
      · have hki : ¬ (k : Int) < n := by omega
        have b66 := ((hBW.below hbr hl).cell 66).trans g66
        have hl2 := (hBW.below hbr hl).lt
        have hMr := hMW.keep (hbr.block _ hMW.lt)
        clear b65 hbr
        go_wp2
        go_loopw [53] (fun v w2 => v = .int .i64 0 ∧ w2 = wr) (fun _ _ => 0)
        case atStart => exact ⟨rfl, rfl⟩
        case round =>
        obtain ⟨rfl, rfl⟩ := hrel
        go_wp2_with (refine wpList_mv_len rfl Tryd.mtII _ rfl rfl hMr rfl ?_)
        go_ret
        exact ⟨rfl, hbW.trans (Hbr.out.mono hWs)⟩
end Go.Proofs.YtgeiegjpnnbloaaDoor
