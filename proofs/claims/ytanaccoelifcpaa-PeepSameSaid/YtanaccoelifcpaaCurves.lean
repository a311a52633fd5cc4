/- (*model.world).weight: what a world weighs. model.Curve: the weights ahead of the first instruction and behind each. model.all with Curve's look: the weights come one behind the other. model.Curve of any tree. -/
import Derived.Test.YtanaccoelifcpaaGrowP
import Derived.Test.YtanaccoelifcpaaNum0
import Derived.Test.YtanaccoelifcpaaAllRun
import Derived.Test.YtanaccoelifcpaaViews

namespace Go.Proofs.Ytanaccoelifcpaa
open Go.RowKit

theorem one_N : (4607182418800017408 : Nat) = N 1 := by decide +kernel
theorem parts7_any (n by_ : Nat) (hn : n ≤ 4611686018427387904) (hb : 0 < by_) (hb2 : by_ ≤ 512) (w : World) : Calls Try.prog 37 #[.int .i64 n, .int .i64 by_] w fun e w' => e = .returned (.int .i64 ((n + (by_ - 1)) / by_ : Nat)) ∧ w' = w := by
  have h0 : ((by_ : Int) == 0) = false := beq_eq_false_iff_ne.2 (by omega)
  obtain ⟨c, rfl⟩ : ∃ c, by_ = c + 1 := ⟨by_ - 1, by omega⟩
  go_enter Try.func37, Try.ntmps37
  go_wp2
  go_ret
  refine ⟨?_, rfl⟩
  show Ending.returned (.int .i64 (((n : Int) + ((c : Int) + 1) - 1) / ((c : Int) + 1))) = _
  have e1 : (n : Int) + ((c : Int) + 1) - 1 = ((n + (c + 1 - 1) : Nat) : Int) := by omega
  have e2 : ((c : Int) + 1) = ((c + 1 : Nat) : Int) := by omega
  rw [e1, e2, ← Int.natCast_ediv]
theorem parts7_16 (k : Nat) (hk : k ≤ 4611686018427387904) (w : World) : Calls Try.prog 37 #[.int .i64 k, .int .i64 16] w fun e w' => e = .returned (.int .i64 ((k + 15) / 16 : Nat)) ∧ w' = w := parts7_any k 16 hk (by omega) (by omega) w
theorem parts7_512 (k : Nat) (hk : k ≤ 4611686018427387904) (w : World) : Calls Try.prog 37 #[.int .i64 k, .int .i64 512] w fun e w' => e = .returned (.int .i64 ((k + 511) / 512 : Nat)) ∧ w' = w := parts7_any k 512 hk (by omega) (by omega) w
theorem run_max1 (ts : Array TypeId) (t : TypeId) (q : Nat) (w : World) : (Builtin.max_ ts t #[.int .i64 1, .int .i64 (q : Int)]).run Try.prog w = .ok (.int .i64 ((max 1 q : Nat) : Int)) w := by
  by_cases h : 1 < q
  · have h1 : (1 : Int) < q := by omega
    have h2 : max 1 q = q := by omega
    simp [Builtin.max_, Builtin.max2, h1, h2]
  · have h1 : ¬ (1 : Int) < q := by omega
    have h2 : max 1 q = 1 := by omega
    simp [Builtin.max_, Builtin.max2, h1, h2]
theorem sum_out {α β : Type} [DecidableEq α] (key : β → α) (f : β → Nat) : ∀ {l : List β}, (l.map key).Nodup → ∀ {x : β}, x ∈ l → (l.map f).sum = f x + ((l.filter fun y => !decide (key y = key x)).map f).sum
  | [], _, _, h => by cases h
  | y :: l, hn, x, hx => by
    rw [List.map_cons, List.nodup_cons] at hn
    rcases List.mem_cons.1 hx with e | hx
    · subst e
      rw [List.filter_cons_of_neg (by simp), List.map_cons, List.sum_cons]
      have : l.filter (fun y => !decide (key y = key x)) = l := List.filter_eq_self.2 fun z hz => by
        have : key z ≠ key x := fun e => hn.1 (e ▸ List.mem_map_of_mem hz)
        simp [this]
      rw [this]
    · have hne : key y ≠ key x := fun e => hn.1 (e ▸ List.mem_map_of_mem hx)
      rw [List.filter_cons_of_pos (by simp [hne]), List.map_cons, List.map_cons, List.sum_cons, List.sum_cons, sum_out key f hn.2 hx]
      omega
/-- What the directories of a list weigh. -/
def restB (all l : List Node) : Nat := (l.map fun x => if x.file < 0 then dW (kidsC all x.path) else 0).sum
def restI (l : List Node) : Nat := (l.map fun x => if x.file < 0 then 1 else 0).sum
theorem rest_dirs (all : List Node) : ∀ l : List Node, (((l.filter fun x => decide (x.file < 0)).map (·.path)).map fun p => dW (kidsC all p)).sum = restB all l
  | [] => rfl
  | x :: l => by
    have ih := rest_dirs all l
    unfold restB at ih ⊢
    by_cases h : x.file < 0
    · rw [List.filter_cons_of_pos (by simp [h]), List.map_cons, List.map_cons, List.sum_cons, ih, List.map_cons, List.sum_cons, if_pos h]
    · rw [List.filter_cons_of_neg (by simp [h]), ih, List.map_cons, List.sum_cons, if_neg h, Nat.zero_add]
theorem rest_count : ∀ l : List Node, ((l.filter fun x => decide (x.file < 0)).map (·.path)).length = restI l
  | [] => rfl
  | x :: l => by
    have ih := rest_count l
    unfold restI at ih ⊢
    by_cases h : x.file < 0
    · rw [List.filter_cons_of_pos (by simp [h])]
      simp [h] at ih ⊢
      omega
    · rw [List.filter_cons_of_neg (by simp [h])]
      simp [h] at ih ⊢
      omega
theorem mB_rest (M : PW) : mB M = dW (kidsC M.nodes ByteArray.empty) + restB M.nodes M.nodes + filesW M.files := by
  unfold mB dirsW dirL
  rw [List.map_cons, List.sum_cons, rest_dirs]
theorem mI_rest (M : PW) : mI M = 1 + restI M.nodes + M.files.length := by
  unfold mI dirL
  rw [List.length_cons, rest_count]
  omega
theorem kidsC_len (l : List Node) (p : ByteArray) : kidsC l p ≤ l.length := List.countP_le_length
/-- The sum over the nodes so far. -/
def SumN (M : PW) (nb rb : Nat) (w : World) (v : Value) (wr : World) : Prop :=
  ∃ (rest : List Node) (b i cnt : Nat), v = .complex .f64 (N b) (N i) ∧ MapR strK wr nb rb (nodesE M.nodes) (nodesE rest) cnt ∧ (∀ x ∈ rest, x ∈ M.nodes) ∧
    b + restB M.nodes rest = dW (kidsC M.nodes ByteArray.empty) + restB M.nodes M.nodes ∧ i + restI rest = 1 + restI M.nodes ∧ Below w.heap.size w wr
def msW (l : List MF) : Nat := (l.map fun m => fW m.n).sum
/-- And over the files. -/
def SumF (M : PW) (ms : List MF) (fb rb : Nat) (w : World) (v : Value) (wr : World) : Prop :=
  ∃ (rest : List MF) (b i cnt : Nat), v = .complex .f64 (N b) (N i) ∧ MapR intK wr fb rb (msE ms) (msE rest) cnt ∧ (∀ x ∈ rest, x ∈ ms) ∧
    b + msW rest = dW (kidsC M.nodes ByteArray.empty) + restB M.nodes M.nodes + msW ms ∧ i + rest.length = 1 + restI M.nodes + ms.length ∧ Below w.heap.size w wr
def WgtRes7 (M : PW) (w : World) (e : Ending) (w' : World) : Prop := e = .returned (.complex .f64 (N (mB M)) (N (mI M))) ∧ Below w.heap.size w w'
set_option maxRecDepth 100000 in
set_option maxHeartbeats 8000000 in
theorem weight7_any (B0 wb : Nat) (M : PW) (s : Nat) (w : World) (h : WorldAt B0 w wb M s) (hl : M.nodes.length ≤ 1000000) (hds : ∀ f ∈ M.files, f.data.size ≤ 1000000) (hmB : mB M < 1000000000) (hmI : mI M < 1000000000) :
    Calls Try.prog 18 #[.pointer (some ⟨wb, 0, none⟩)] w (WgtRes7 M w) := by
  obtain ⟨nb, fb, kb, ms, kl, hM, hO⟩ := h
  have HO := Lib.hid hO; clear hO
  have b2 := hM.blk.cell 2
  have hg0 := HO.out.kid ByteArray.empty
  have hk0 := kidsC_len M.nodes ByteArray.empty
  obtain ⟨k0, hk0e⟩ : ∃ k, kidsC M.nodes ByteArray.empty = k := ⟨_, rfl⟩
  have hmB2 := mB_rest M; have hmI2 := mI_rest M
  rw [hk0e] at hg0 hk0 hmB2
  obtain ⟨q0, hq0⟩ : ∃ q, (k0 + 15) / 16 = q := ⟨_, rfl⟩
  have hp0 := parts7_16 k0 (by omega)
  rw [hq0] at hp0
  obtain ⟨d0, hd0⟩ : ∃ d, max 1 q0 = d := ⟨_, rfl⟩
  have hmx := fun ts t w => run_max1 ts t q0 w
  rw [hd0] at hmx
  have hdW : dW k0 = d0 := by unfold dW; rw [hq0, hd0]
  have HdW := Lib.hid hdW; have Hp0 := Lib.hid hp0
  clear hq0 hp0 hd0 hdW
  have HK0 := Lib.hid hk0e; have HmB := Lib.hid hmB2; have HmI := Lib.hid hmI2; have Hg0 := Lib.hid hg0
  have HM := Lib.hid hM
  have hz0 : ByteArray.empty.size ≤ maxLen := by decide
  clear hk0e hmB2 hmI2 hg0 hM
  go_enter Try.func18, Try.ntmps18
  go_upto_region 2 with (first | (refine wpList_mv_look rfl Try.mtKids _ _ rfl rfl HM.out.kids (T := strK) (q := ByteArray.empty) rfl hz0 Hg0.out ?_) | (go_at_call 37; refine (Hp0.out _).mono ?_; rintro e w1 ⟨rfl, hw⟩; rw [hw]; clear hw))
  rw [one_N, show floatOfInt .f64 (d0 : Int) = N d0 from rfl]
  have b0 := HM.out.blk.cell 0
  go_upto_region 7 with (refine wpList_mr_range rfl Try.mtNodes _ rfl rfl HM.out.nodes ?_; intro w2 hMR hg2 hs2; simp only [Act.put, List.setIfInBounds_toArray, List.set_cons_zero, List.set_cons_succ])
  have hN0 : SumN M nb w.heap.size w (.complex .f64 (N d0) (N 1)) w2 :=
    ⟨M.nodes, d0, 1, _, rfl, hMR, fun x hx => hx, by rw [HK0.out, HdW.out], rfl, below_grown hg2 (Nat.le_refl _) (fun g e => by cases e)⟩
  have HN0 := Lib.hid hN0
  clear hN0 hMR hg2 hs2 b0 b2
  go_loopw [3] (fun v3 wr => SumN M nb w.heap.size w v3 wr) (fun _ wr => wr.rangeLeft nb w.heap.size)
  case atStart => exact HN0.out
  case round =>
    clear HN0
    obtain ⟨rest, b, i, cnt, rfl, hMR, hsub, hsb, hsi, hb⟩ := hrel
    by_cases hr : rest = []
    · subst hr
      have hM2 := HM.out.keep (grown_below hb (Nat.le_refl _))
      have HM2 := Lib.hid hM2
      have m1 := hM2.blk.cell 1
      have hfs : msW ms = filesW M.files := by
        unfold msW filesW
        rw [← HO.out.mfs, List.map_map]
        exact congrArg List.sum (List.map_congr_left fun m hm => by show fW m.n = fW m.data.size; rw [(HM.out.fdat m hm).1])
      have hfl : ms.length = M.files.length := by rw [← HO.out.mfs, List.length_map]
      have hsb' : b = dW (kidsC M.nodes ByteArray.empty) + restB M.nodes M.nodes := hsb
      have hsi' : i = 1 + restI M.nodes := hsi
      have HFs := Lib.hid hfs; have HFl := Lib.hid hfl; have Hsb := Lib.hid hsb'; have Hsi := Lib.hid hsi'
      have hzr := hb.size
      clear hfs hfl hsb hsi hsb' hsi' hM2
      go_upto_region 8 with (first | (refine wpList_mr_nil rfl _ rfl rfl hMR ?_) | (refine wpList_mr_range (k := 3) rfl Try.mtFiles _ rfl rfl HM2.out.files ?_; intro w2 hMR2 hg2 hs2; simp only [Act.put, List.setIfInBounds_toArray, List.set_cons_zero, List.set_cons_succ]))
      have HN0 := Lib.hid (show SumF M ms fb wr.heap.size w (.complex .f64 (N b) (N i)) w2 from
        ⟨ms, b, i, _, rfl, hMR2, fun x hx => hx, by rw [Hsb.out], by rw [Hsi.out], hb.trans (below_grown hg2 hzr (fun g e => by cases e))⟩)
      obtain ⟨rb, hrb⟩ : ∃ g, wr.heap.size = g := ⟨_, rfl⟩
      rw [hrb] at HN0 hzr ⊢
      clear hMR2 hg2 hs2 hb hMR m1 hrb Hsb Hsi
      go_loopw [3] (fun v3 wr => SumF M ms fb rb w v3 wr) (fun _ wr => wr.rangeLeft fb rb)
      case atStart => exact HN0.out
      case round =>
      clear HN0
      obtain ⟨rest, b, i, cnt, rfl, hMR, hsub, hsb, hsi, hb⟩ := hrel
      by_cases hr : rest = []
      · subst hr
        have hsb' : b = mB M := by rw [HmB.out, ← HFs.out, ← HK0.out]; exact hsb
        have hsi' : i = mI M := by rw [HmI.out, ← HFl.out]; exact hsi
        have Hsb := Lib.hid hsb'; have Hsi := Lib.hid hsi'
        clear hsb hsi hsb' hsi'
        go_wp2_with (refine wpList_mr_nil rfl _ rfl rfl hMR ?_)
        go_ret
        exact ⟨by rw [Hsb.out, Hsi.out]; rfl, hb⟩
      · have hne : msE rest ≠ [] := by
          intro e
          exact hr (List.map_eq_nil_iff.1 e)
        have hnd := hMR.2.1
        rw [msE_keys] at hnd
        have Hnd := Lib.hid hnd; have Hsb := Lib.hid hsb; have Hsi := Lib.hid hsi; have Hne := Lib.hid hne; have Hsub := Lib.hid hsub
        clear hnd hsb hsi hne hsub hr
        go_upto_region 10 with (refine wpList_mr_cons (k := 3) rfl _ rfl Hne.out rfl hMR ?_; intro q v w4 cnt4 hm4 hok4 hMR4 hc4 hg4 hs4 hen4; obtain ⟨x, hx, hxe⟩ := List.mem_map.1 hm4; obtain ⟨rfl, rfl⟩ : x.id = q ∧ (.pointer (some ⟨x.g, 0, none⟩) : Value) = v := ⟨congrArg Prod.fst hxe, congrArg Prod.snd hxe⟩; have hen5 : (Instr.entry (.pointer (some ⟨rb, 0, none⟩))).run Try.prog w4 = .ok (.tuple #[.int .i64 x.id, .pointer (some ⟨x.g, 0, none⟩)]) w4 := hen4; clear hen4 hxe hm4)
        have hxs : msW rest = fW x.n + msW (rest.filter fun y => !decide (y.id = x.id)) := sum_out (fun y : MF => y.id) (fun m : MF => fW m.n) Hnd.out hx
        have hxi : rest.length = 1 + (rest.filter fun y => !decide (y.id = x.id)).length := by
          have := sum_out (fun y : MF => y.id) (fun _ : MF => 1) Hnd.out hx
          have e : ∀ l : List MF, (l.map fun _ => 1).sum = l.length := fun l => by induction l <;> simp_all <;> omega
          rw [e, e] at this
          exact this
        have hMR5 := hMR4
        rw [msE_del] at hMR5
        have hcm := hMR5.left_eq
        have hcl := hMR.left_eq
        have hb5 := hb.trans (below_grown hg4 hb.size (fun g e => by injection e with e; omega))
        have hxm := Hsub.out x hx
        have Hsub5 := Lib.hid (show ∀ y ∈ rest.filter (fun y => !decide (y.id = x.id)), y ∈ ms from fun y hy => Hsub.out y (List.mem_filter.1 hy).1)
        have hB5 := (HM.out.fblk x hxm).below hb5 (HM.out.fblk x hxm).lt
        have n2 : w4.cell? ⟨x.g, 2, none⟩ = some (.slice x.A x.n x.c) := hB5.cell 2
        have hBl := hB5.lt
        have hsz : x.n ≤ 1000000 := by
          have h1 := (HM.out.fdat x hxm).1
          have h2 := hds x.pf (by rw [← HO.out.mfs]; exact List.mem_map_of_mem hxm)
          rw [← h1]; exact h2
        obtain ⟨q, hq⟩ : ∃ q, (x.n + 511) / 512 = q := ⟨_, rfl⟩
        have hpx := parts7_512 x.n (by omega)
        rw [hq] at hpx
        have hfw : fW x.n = if 8 < q then q + 1 else q := by unfold fW; rw [hq]
        rw [hfw] at hxs
        have HMR5 := Lib.hid hMR5; have Hb5 := Lib.hid hb5; have Hcm := Lib.hid hcm; have Hcl := Lib.hid hcl; have Hc4 := Lib.hid hc4; have Hxs := Lib.hid hxs; have Hxi := Lib.hid hxi; have Hpx := Lib.hid hpx
        clear hMR5 hb5 hg4 hMR4 hMR hcm hcl hc4 hxs hxi hb hs4 hB5 hq hpx hfw hok4
        by_cases h8 : 8 < q
        · have h8i : (8 : Int) < q := by omega
          have hxs := Hxs.out
          rw [if_pos h8] at hxs
          have hxi := Hxi.out
          have hb2 : b + (q + 1) < 1000000000 := by have h1 := Hsb.out; have h2 := HmB.out; rw [HK0.out, HFs.out] at h1; omega
          have hi2 : i + 1 < 1000000000 := by have h1 := Hsi.out; have h2 := HmI.out; rw [HFl.out] at h1; omega
          have hsum := fun w => run_complex_sum (P := Try.prog) w .add (.inl rfl) 41 .f64 (N b) (N i) (floatOfInt .f64 ((q : Int) + 1)) 4607182418800017408 (N (b + (q + 1))) (N (i + 1)) (by
            show cSumBits .add .f64 (N b) (N i) (N (q + 1)) 4607182418800017408 = _
            rw [one_N]
            simp [cSumBits, N_add b (by omega) (q + 1) (by omega), N_add i (by omega) 1 (by omega)])
          have Hs2 := Lib.hid hxs
          have hq2 : q ≤ 1000000000 := by omega
          clear hxs hxi hb2 hi2
          go_wp2_with (go_at_call 37; refine (Hpx.out _).mono ?_; rintro e w6 ⟨rfl, hw⟩; rw [hw]; clear hw)
          go_roundw
          case rel => exact ⟨_, b + (q + 1), i + 1, cnt4, rfl, HMR5.out, Hsub5.out, by have h1 := Hsb.out; have h2 := Hs2.out; omega, by have h1 := Hsi.out; have h2 := Hxi.out; omega, Hb5.out⟩
          case measure => rw [Hcm.out, Hcl.out]; exact Hc4.out
        · have h8i : ¬ (8 : Int) < q := by omega
          have hxs := Hxs.out
          rw [if_neg h8] at hxs
          have hxi := Hxi.out
          have hb2 : b + q < 1000000000 := by have h1 := Hsb.out; have h2 := HmB.out; rw [HK0.out, HFs.out] at h1; omega
          have hi2 : i + 1 < 1000000000 := by have h1 := Hsi.out; have h2 := HmI.out; rw [HFl.out] at h1; omega
          have hsum := fun w => run_complex_sum (P := Try.prog) w .add (.inl rfl) 41 .f64 (N b) (N i) (floatOfInt .f64 (q : Int)) 4607182418800017408 (N (b + q)) (N (i + 1)) (by
            show cSumBits .add .f64 (N b) (N i) (N q) 4607182418800017408 = _
            rw [one_N]
            simp [cSumBits, N_add b (by omega) q (by omega), N_add i (by omega) 1 (by omega)])
          have Hs2 := Lib.hid hxs
          have hq2 : q ≤ 1000000000 := by omega
          clear hxs hxi hb2 hi2
          go_wp2_with (go_at_call 37; refine (Hpx.out _).mono ?_; rintro e w6 ⟨rfl, hw⟩; rw [hw]; clear hw)
          go_roundw
          case rel => exact ⟨_, b + q, i + 1, cnt4, rfl, HMR5.out, Hsub5.out, by have h1 := Hsb.out; have h2 := Hs2.out; omega, by have h1 := Hsi.out; have h2 := Hxi.out; omega, Hb5.out⟩
          case measure => rw [Hcm.out, Hcl.out]; exact Hc4.out
    · have hne : nodesE rest ≠ [] := by
        intro e
        exact hr (List.map_eq_nil_iff.1 e)
      have hnd := hMR.2.1
      rw [nodesE_keys] at hnd
      have Hnd := Lib.hid hnd; have Hsb := Lib.hid hsb; have Hsi := Lib.hid hsi; have Hne := Lib.hid hne; have Hsub := Lib.hid hsub
      clear hnd hsb hsi hne hsub hr
      go_upto_region 5 with (refine wpList_mr_cons rfl _ rfl Hne.out rfl hMR ?_; intro q v w4 cnt4 hm4 hok4 hMR4 hc4 hg4 hs4 hen4; obtain ⟨x, hx, hxe⟩ := List.mem_map.1 hm4; obtain ⟨rfl, rfl⟩ : x.path = q ∧ nodeV x.file x.mode = v := ⟨congrArg Prod.fst hxe, congrArg Prod.snd hxe⟩; have hen5 : (Instr.entry (.pointer (some ⟨w.heap.size, 0, none⟩))).run Try.prog w4 = .ok (.tuple #[.string x.path, .agg #[.int .i64 x.file, .int .i64 x.mode]]) w4 := hen4; clear hen4 hxe hm4)
      have hX := Blk.new w4 75 #[.int .i64 x.file, .int .i64 x.mode]
      have hxs : restB M.nodes rest = (if x.file < 0 then dW (kidsC M.nodes x.path) else 0) + restB M.nodes (noPath rest x.path) := sum_out (fun y : Node => y.path) (fun x : Node => if x.file < 0 then dW (kidsC M.nodes x.path) else 0) Hnd.out hx
      have hxi : restI rest = (if x.file < 0 then 1 else 0) + restI (noPath rest x.path) := sum_out (fun y : Node => y.path) (fun x : Node => if x.file < 0 then 1 else 0) Hnd.out hx
      have hMR5 := (hMR4.kept (World.grownBy_alloc w4 (.cells #[.int .i64 x.file, .int .i64 x.mode] 75) none) (by simp) (by simp))
      rw [nodesE_del] at hMR5
      have hcm := hMR5.left_eq
      have hcl := hMR.left_eq
      have hb5 := (hb.trans (below_grown hg4 (by have := hb.size; omega) (fun g e => by injection e with e; omega))).alloc (by have := hb.size; rw [hs4]; exact this) (.cells #[.int .i64 x.file, .int .i64 x.mode] 75)
      have hxm := Hsub.out x hx
      have Hsub5 := Lib.hid (show ∀ y ∈ noPath rest x.path, y ∈ M.nodes from fun y hy => Hsub.out y (List.mem_filter.1 hy).1)
      rw [hs4] at hX
      obtain ⟨W5, hW5⟩ : ∃ W, w4.alloc (.cells #[.int .i64 x.file, .int .i64 x.mode] 75) = W := ⟨_, rfl⟩
      rw [hW5] at hX hMR5 hb5 hcm ⊢
      have n0 := hX.cell 0
      have hXl := hX.lt
      have hM5 := HM.out.keep (grown_below hb5 (Nat.le_refl _))
      have HM5 := Lib.hid hM5
      have m2 := hM5.blk.cell 2
      have hwl := hM5.blk.lt
      have HMR5 := Lib.hid hMR5; have Hb5 := Lib.hid hb5; have Hcm := Lib.hid hcm; have Hcl := Lib.hid hcl; have Hc4 := Lib.hid hc4; have Hxs := Lib.hid hxs; have Hxi := Lib.hid hxi
      clear hW5 hMR5 hb5 hM5 hen5 hg4 hMR4 hMR hcm hcl hc4 hxs hxi hb hs4
      by_cases hf : x.file < 0
      · have Hf := Lib.hid hf
        obtain ⟨kx, hkx⟩ : ∃ k, kidsC M.nodes x.path = k := ⟨_, rfl⟩
        have hkl := kidsC_len M.nodes x.path
        have hgx := HO.out.kid x.path
        rw [hkx] at hkl hgx
        obtain ⟨q, hq⟩ : ∃ q, (kx + 15) / 16 = q := ⟨_, rfl⟩
        have hpx := parts7_16 kx (by omega)
        rw [hq] at hpx
        obtain ⟨d, hd⟩ : ∃ d, max 1 q = d := ⟨_, rfl⟩
        have hmx := fun ts t w => run_max1 ts t q w
        rw [hd] at hmx
        have hdx : dW (kidsC M.nodes x.path) = d := by unfold dW; rw [hkx, hq, hd]
        have hxs := Hxs.out
        have hxi := Hxi.out
        rw [if_pos hf, hdx] at hxs
        rw [if_pos hf] at hxi
        have hb2 : b + d < 1000000000 := by have h1 := Hsb.out; have h2 := HmB.out; have h3 := HdW.out; rw [HK0.out] at h1; omega
        have hi2 : i + 1 < 1000000000 := by have h1 := Hsi.out; have h2 := HmI.out; omega
        have hsum := fun w => run_complex_sum (P := Try.prog) w .add (.inl rfl) 41 .f64 (N b) (N i) (floatOfInt .f64 (d : Int)) 4607182418800017408 (N (b + d)) (N (i + 1)) (by
          show cSumBits .add .f64 (N b) (N i) (N d) 4607182418800017408 = _
          rw [one_N]
          simp [cSumBits, N_add b (by omega) d (by omega), N_add i (by omega) 1 (by omega)])
        have Hpx := Lib.hid hpx; have Hgx := Lib.hid hgx; have Hs2 := Lib.hid hxs; have Hi2 := Lib.hid hxi
        have hzx : strK.ok x.path := x.hp
        clear hpx hgx hxs hxi hkx hq hd hdx hkl hb2 hi2
        go_wp2_with (first | (refine wpList_mv_look rfl Try.mtKids _ _ rfl rfl HM5.out.kids (T := strK) (q := x.path) rfl hzx Hgx.out ?_) | (go_at_call 37; refine (Hpx.out _).mono ?_; rintro e w6 ⟨rfl, hw⟩; rw [hw]; clear hw))
        go_roundw
        case rel => exact ⟨noPath rest x.path, b + d, i + 1, cnt4, rfl, HMR5.out, Hsub5.out, by have h1 := Hsb.out; have h2 := Hs2.out; omega, by have h1 := Hsi.out; have h2 := Hi2.out; omega, Hb5.out⟩
        case measure => rw [Hcm.out, Hcl.out]; exact Hc4.out
      · have Hf := Lib.hid hf
        have hxs := Hxs.out
        have hxi := Hxi.out
        rw [if_neg hf, Nat.zero_add] at hxs hxi
        have Hs2 := Lib.hid hxs; have Hi2 := Lib.hid hxi
        clear hxs hxi
        go_wp2
        go_roundw
        case rel => exact ⟨noPath rest x.path, b, i, cnt4, rfl, HMR5.out, Hsub5.out, by have h1 := Hsb.out; have h2 := Hs2.out; omega, by have h1 := Hsi.out; have h2 := Hi2.out; omega, Hb5.out⟩
        case measure => rw [Hcm.out, Hcl.out]; exact Hc4.out
end Go.Proofs.Ytanaccoelifcpaa

namespace Go.Proofs.Ytanaccoelifcpaa
open Go.RowKit

theorem Try.cxT : ElemT Try.prog 38 41 1 16 := ElemT.mk' (z := .complex .f64 0 0) Try.underlying38 (by kernel_rfl) rfl (by omega)
def cxC (x : Nat × Nat) : List Value := [.complex .f64 (N x.1) (N x.2)]
theorem cxC_snoc (xs : List (Nat × Nat)) (x : Nat × Nat) : (xs ++ [x]).flatMap cxC = xs.flatMap cxC ++ [.complex .f64 (N x.1) (N x.2)] := by simp [cxC]
/-- The weights so far. -/
structure CurS (lg base : Nat) (xs : List (Nat × Nat)) (A : Option Addr) (n c : Nat) (w : World) : Prop where
  lB : Blk w lg 38 #[.slice A n c]
  row : w.ownsRow base 41 1 (.slice A n c) n (xs.flatMap cxC)
  len : xs.length = n
theorem CurS.fr {lg base B0 n c : Nat} {xs : List (Nat × Nat)} {A : Option Addr} {w w' : World} (h : CurS lg base xs A n c w) (hf : Fr B0 w w') : CurS lg base xs A n c w' := by
  refine ⟨hf.blk h.lB (by decide) (by decide), ?_, h.len⟩
  refine ⟨h.row.1, ?_⟩
  rcases h.row.2 with h0 | ⟨g, cap, cur, hv, hg, hh, r⟩
  · exact .inl h0
  · exact .inr ⟨g, cap, cur, hv, hg, (hf.loc g cur _ hh (by decide) (by decide)).trans hh, r⟩
/-- A block that is none of the world's is turned. -/
theorem WorldAt.other {B0 wb s g : Nat} {w w' : World} {M : PW} {t : TypeId} {cs : Array Value} (h : WorldAt B0 w wb M s) (hg : w.grownBy w' (some g)) (hB : Blk w g t cs) (h1 : t ≠ 71) (h2 : t ≠ 79)
    (hd : ∀ b o x, b < B0 → w.cell? ⟨b, o, none⟩ = some (.int .u8 x) → b ≠ g) : WorldAt B0 w' wb M s := by
  obtain ⟨nb, fb, kb, ms, kl, hM, hO⟩ := h
  have hty : ∀ {g' : Nat} {t' : TypeId} {cs' : Array Value}, Blk w g' t' cs' → t ≠ t' → some g' ≠ some g := fun {g' t' cs'} hb hne e => by
    injection e with e
    subst e
    unfold Blk at hb hB
    rw [hB] at hb
    injection hb with hb
    injection hb with _ hb
    exact hne hb
  refine ⟨nb, fb, kb, ms, kl, ⟨hM.blk.grown hg (hty hM.blk h1), hM.nodes.kept hg (fun e => by injection e with e; exact hB.ne_map hM.nodes e.symm), hM.files.kept hg (fun e => by injection e with e; exact hB.ne_map hM.files e.symm), hM.kids.kept hg (fun e => by injection e with e; exact hB.ne_map hM.kids e.symm), hM.gs, fun m hm => (hM.fblk m hm).grown hg (hty (hM.fblk m hm) h2), fun m hm => ⟨(hM.fdat m hm).1, (hM.fdat m hm).2.1, fun hn => ?_⟩, hM.fnew, hM.new, hM.ne⟩, hO⟩
  obtain ⟨b, o, e, hb, hr⟩ := (hM.fdat m hm).2.2 hn
  refine ⟨b, o, e, hb, hr.keep (hg.block b (Nat.lt_of_lt_of_le hb hM.size) (fun e2 => ?_))⟩
  injection e2 with e2
  have hl : (bytesC m.data).length = m.n * 1 := (hM.fdat m hm).2.1
  have h0 : ∃ x, (bytesC m.data)[0]? = some (.int .u8 x) := by
    have hlen : 0 < (bytesC m.data).length := by omega
    unfold bytesC at hlen ⊢
    rw [List.getElem?_map, List.getElem?_eq_getElem (by simpa using hlen)]
    exact ⟨_, rfl⟩
  obtain ⟨x, hx⟩ := h0
  exact hd b (o + 0) x hb (hr 0 _ hx) e2
/-- A row that is not the world's is turned. -/
theorem WorldAt.row {B0 wb s base n c : Nat} {w w' : World} {M : PW} {e : TypeId} {A : Option Addr} {L : List Value} (h : WorldAt B0 w wb M s) (ho : w.ownsRow base e 1 (.slice A n c) n L) (hb : B0 ≤ base) (hg : w.grownBy w' (blkOf A)) (h1 : e ≠ 71) (h2 : e ≠ 79) : WorldAt B0 w' wb M s := by
  rcases ho.2 with ⟨h0, _⟩ | ⟨g, cap, cur, hv, hg', hh, _⟩
  · injection h0 with hA
    subst hA
    exact h.keep hg
  · injection hv with hA
    subst hA
    exact h.other hg hh h1 h2 fun b o x hb' _ (e : b = g) => by omega
def CLookRes (B0 wb s lg base : Nat) (M : PW) (xs : List (Nat × Nat)) (w : World) (e : Ending) (w' : World) : Prop :=
  (∃ v, e = .returned v) ∧ WorldAt B0 w' wb M s ∧ (∃ A n c, CurS lg base (xs ++ [(mB M, mI M)]) A n c w') ∧ Below lg w w'
set_option maxRecDepth 100000 in
set_option maxHeartbeats 8000000 in
theorem curve_look (B0 wb lg : Nat) (M : PW) (s : Nat) (xs : List (Nat × Nat)) (A : Option Addr) (n c : Nat) (w : World) (h : WorldAt B0 w wb M s) (hl : M.nodes.length ≤ 1000000) (hds : ∀ f ∈ M.files, f.data.size ≤ 1000000) (hmB : mB M < 1000000000) (hmI : mI M < 1000000000)
    (hC : CurS lg B0 xs A n c w) (hn : n ≤ 100000) (hlg : lg < B0) :
    Calls Try.prog 17 #[.pointer (some ⟨wb, 0, none⟩), .pointer (some ⟨lg, 0, none⟩)] w (CLookRes B0 wb s lg B0 M xs w) := by
  have hsz : B0 ≤ w.heap.size := h.size
  have l0 := hC.lB.cell 0
  have hll := hC.lB.lt
  have hwg := weight7_any B0 wb M s w.drew (h.keep (grown_drew w none)) hl hds hmB hmI
  have hneL := hC.lB.ne_row hC.row (by decide)
  have HW := Lib.hid h; have HC := Lib.hid hC; have Hwg := Lib.hid hwg
  clear h hC hwg
  go_enter Try.func17, Try.ntmps17
  refine wp_region_ordG (blkOf A) [(0, true), (1, true), (2, false), (3, false), (4, false)] 5 (by kernel_rfl) (by kernel_rfl) fun hG0 => ?_
  repeat (first
    | (refine ord_skipB rfl (by rfl) ?_; simp only [Act.put, List.setIfInBounds_toArray, List.set_cons_zero, List.set_cons_succ])
    | (refine ord_qE rfl (by rfl) ?_; apply Exists.intro; refine ⟨fun w' hc' => ?_, ?_⟩; (focus (go_simp; (try go_bits); (try simp only [↓IntWalk.iteOmega]); with_reducible rfl)); simp only [Act.put, List.setIfInBounds_toArray, List.set_cons_zero, List.set_cons_succ]))
  refine ord_eB rfl fun K hK => ?_
  go_wp2_with (go_at_call 18; refine Hwg.out.mono ?_; rintro e w1 ⟨rfl, hb1⟩)
  have hG1 := grown_trans hG0 (grown_below hb1 (Nat.le_refl _))
  refine hK.out _ _ hG1 ?_
  clear hK K
  repeat (first
    | (refine ord_skipB rfl (by rfl) ?_; simp only [Act.put, List.setIfInBounds_toArray, List.set_cons_zero, List.set_cons_succ])
    | (refine ord_qE rfl (by rfl) ?_; apply Exists.intro; refine ⟨fun w' hc' => ?_, ?_⟩; (focus (go_simp; (try go_bits); (try simp only [↓IntWalk.iteOmega]); with_reducible rfl)); simp only [Act.put, List.setIfInBounds_toArray, List.set_cons_zero, List.set_cons_succ]))
  replace hb1 : Below w.heap.size w w1 := ⟨hb1.os, hb1.tape, hb1.output, hb1.size, hb1.block⟩
  have hC1 := HC.out.fr (Fr.of_below hb1 hsz)
  have hW1 := HW.out.keep (grown_below hb1 (Nat.le_refl _))
  have hs1 : B0 ≤ w1.heap.size := Nat.le_trans hsz hb1.size
  have HC1 := Lib.hid hC1; have HW1 := Lib.hid hW1
  clear hC1 hW1
  repeat (first
    | (refine ord_skipB rfl (by rfl) ?_; simp only [Act.put, List.setIfInBounds_toArray, List.set_cons_zero, List.set_cons_succ])
    | (refine ord_qE rfl (by rfl) ?_; apply Exists.intro; refine ⟨fun w' hc' => ?_, ?_⟩; (focus (go_simp; (try go_bits); (try simp only [↓IntWalk.iteOmega]); with_reducible rfl)); simp only [Act.put, List.setIfInBounds_toArray, List.set_cons_zero, List.set_cons_succ]))
  refine ord_eB rfl fun K hK => ?_
  go_wp2_with (fail)
  have hG2 := grown_trans hG1 (World.grownBy_alloc w1 (.cells #[.complex .f64 (N (mB M)) (N (mI M))] 41) (blkOf A))
  refine hK.out _ _ hG2 ?_
  clear hK K
  repeat (first
    | (refine ord_skipB rfl (by rfl) ?_; simp only [Act.put, List.setIfInBounds_toArray, List.set_cons_zero, List.set_cons_succ])
    | (refine ord_qE rfl (by rfl) ?_; apply Exists.intro; refine ⟨fun w' hc' => ?_, ?_⟩; (focus (go_simp; (try go_bits); (try simp only [↓IntWalk.iteOmega]); with_reducible rfl)); simp only [Act.put, List.setIfInBounds_toArray, List.set_cons_zero, List.set_cons_succ]))
  refine ord_eB rfl fun K hK => ?_
  go_wp2_with (at_builtin; refine wpList_append_one rfl _ _ _ rfl Try.cxT rfl HC1.out.row #[.complex .f64 (N (mB M)) (N (mI M))] rfl (by first | rfl | simp) rfl (by simp [Value.oneCell']) (by unfold maxLen; omega) (by omega) hs1 ?_; intro g6 c6 w6 ho6 hg6 hat6)
  have hG3 := grown_trans hG1 hg6
  refine hK.out _ _ hG3 ?_
  clear hK K
  repeat (first
    | (refine ord_skipB rfl (by rfl) ?_; simp only [Act.put, List.setIfInBounds_toArray, List.set_cons_zero, List.set_cons_succ])
    | (refine ord_qE rfl (by rfl) ?_; apply Exists.intro; refine ⟨fun w' hc' => ?_, ?_⟩; (focus (go_simp; (try go_bits); (try simp only [↓IntWalk.iteOmega]); with_reducible rfl)); simp only [Act.put, List.setIfInBounds_toArray, List.set_cons_zero, List.set_cons_succ]))
  have hL6 := HC1.out.lB.grown hg6 hneL
  have hW6 := HW1.out.row HC1.out.row (Nat.le_refl _) hg6 (by decide) (by decide)
  have hbl : Below lg w w6 := (hb1.mono (Nat.le_of_lt hll)).trans (below_grown hg6 (Nat.le_trans (Nat.le_of_lt hll) hb1.size) (fun g e => by have := own_blk1 HC1.out.row g e; omega))
  have e6 := hL6.cell 0; have f6 := hL6.frozen 0; have hl6 := hL6.lt
  have HL6 := Lib.hid hL6; have HW6 := Lib.hid hW6; have Ho6 := Lib.hid ho6; have Hbl := Lib.hid hbl
  clear hL6 hW6 ho6 hg6 hbl hG0 hG1 hG2 hG3 l0
  refine ord_tail rfl fun K hK => ?_
  go_wp2_with (fail)
  refine hK.out _ _ ?_
  clear hK K
  have hlen : (xs ++ [(mB M, mI M)]).length = n + 1 := by rw [List.length_append, HC.out.len]; rfl
  refine bodyPost_end (results_none rfl _ _ _) rfl ⟨⟨_, rfl⟩, ?_, ⟨some ⟨g6, 0, none⟩, n + 1, c6, ⟨HL6.out.set 0 _, ?_, hlen⟩⟩, Hbl.out.setCell (p := ⟨lg, 0, none⟩) (Nat.le_refl _) _⟩
  · refine HW6.out.other (grown_setCell w6 ⟨lg, 0, none⟩ _) HL6.out (by decide) (by decide) fun b o x _ hc e => ?_
    have hc2 : w6.cell? ⟨lg, o, none⟩ = some (.int .u8 x) := by rw [show lg = b from e.symm]; exact hc
    rw [HL6.out.cell o] at hc2
    rcases o with _ | o
    · simp at hc2
    · simp at hc2
  · have := own_blkset Ho6.out HL6.out (by decide) 0 (.slice (some ⟨g6, 0, none⟩) (n + 1) c6)
    rw [cxC_snoc]
    exact this
end Go.Proofs.Ytanaccoelifcpaa

namespace Go.Proofs.Ytanaccoelifcpaa
open Go.RowKit

def wgM (M : PW) : Nat × Nat := (mB M, mI M)
/-- The weights behind the first. -/
def curveT (sd : List ByteArray) : List Cmd → PW → List (Nat × Nat)
  | [], _ => []
  | c :: cs, M => if doE M c sd = 0 then wgM (doM M c sd) :: curveT sd cs (doM M c sd) else []
theorem curveT_step {sd : List ByteArray} {cs : List Cmd} {M : PW} {k : Nat} {c : Cmd} (hc : cs[k]? = some c) (h : doE M c sd = 0) : curveT sd (cs.drop k) M = wgM (doM M c sd) :: curveT sd (cs.drop (k + 1)) (doM M c sd) := by
  rw [drop_at7 hc, curveT, if_pos h]
theorem curveT_stop {sd : List ByteArray} {cs : List Cmd} {M : PW} {k : Nat} {c : Cmd} (hc : cs[k]? = some c) (h : doE M c sd ≠ 0) : curveT sd (cs.drop k) M = [] := by
  rw [drop_at7 hc, curveT, if_neg h]
theorem curveT_end {sd : List ByteArray} {cs : List Cmd} {M : PW} {k : Nat} (h : cs.length ≤ k) : curveT sd (cs.drop k) M = [] := by
  rw [List.drop_eq_nil_of_le h]; rfl
theorem sum_le_mul (f : Nat → Nat) (c : Nat) : ∀ l : List Nat, (∀ x ∈ l, f x ≤ c) → (l.map f).sum ≤ l.length * c
  | [], _ => by simp
  | x :: l, h => by
    have h1 := sum_le_mul f c l fun y hy => h y (List.mem_cons_of_mem _ hy)
    have h2 := h x List.mem_cons_self
    rw [List.map_cons, List.sum_cons, List.length_cons, Nat.succ_mul]
    omega
theorem sum_le_len (c : Nat) : ∀ l : List Nat, (∀ x ∈ l, x ≤ c) → l.sum ≤ l.length * c := fun l h => by
  have := sum_le_mul (fun x => x) c l h
  simpa using this
theorem wgM_small {M : PW} (hI : M.Inv) (hl : M.nodes.length ≤ 256) : mB M < 1000000000 ∧ mI M < 1000000000 := by
  have hf : M.files.length ≤ 256 := by
    have h1 : (M.files.map (·.id)).length ≤ (M.nodes.map (·.file)).length := hI.ids.length_le_of_subset fun i hi => by
      obtain ⟨f, hf, rfl⟩ := List.mem_map.1 hi
      obtain ⟨x, hx, e⟩ := hI.hit f hf
      exact List.mem_map.2 ⟨x, hx, e⟩
    rw [List.length_map, List.length_map] at h1
    omega
  have hd : (dirL M.nodes).length ≤ 257 := by
    unfold dirL
    rw [List.length_cons, List.length_map]
    have := List.length_filter_le (fun x : Node => decide (x.file < 0)) M.nodes
    omega
  have h1 : dirsW M.nodes ≤ (dirL M.nodes).length * 256 := by
    have := sum_le_len 256 ((dirL M.nodes).map fun p => dW (kidsC M.nodes p)) fun x hx => by
      obtain ⟨p, _, rfl⟩ := List.mem_map.1 hx
      exact dW_le (Nat.le_trans (kidsC_len _ _) hl) (by omega)
    rw [List.length_map] at this
    exact this
  have h2 : filesW M.files ≤ M.files.length * 8193 := by
    have := sum_le_len 8193 (M.files.map fun f => fW f.data.size) fun x hx => by
      obtain ⟨f, hf, rfl⟩ := List.mem_map.1 hx
      have h1 := (hI.fbd f hf).2.2.2
      have h2 := fW_le f.data.size
      omega
    rw [List.length_map] at this
    exact this
  have h3 := Nat.mul_le_mul_right 256 hd
  have h4 := Nat.mul_le_mul_right 8193 hf
  unfold mB mI
  omega
def AllcRes (R : PW × Nat × Int) (T : List (Nat × Nat)) (lg base : Nat) (w : World) (e : Ending) (w' : World) : Prop :=
  ∃ wb, e = .returned (.tuple #[.pointer (some ⟨wb, 0, none⟩), .int .i64 R.2.1, .int .i64 R.2.2]) ∧ (∃ A n c, CurS lg base T A n c w') ∧ Below lg w w'
set_option maxRecDepth 100000 in
set_option maxHeartbeats 8000000 in
theorem allc_any (t : TV) (ds : List ByteArray) (cs : List Cmd) (hco : ∀ c ∈ cs, (-9223372036854775808 ≤ c.op ∧ c.op ≤ 9223372036854775807)) (A : Option Addr) (n cap : Nat) (SA : Option Addr) (sn sc : Nat) (ss : List SC) (sd : List ByteArray) (lg : Nat) (w0 w : World) (hw0 : Below w0.heap.size w0 w) (hlg0 : w0.heap.size ≤ lg) (hlg : lg < w.heap.size)
    (h : TreeD w0 t ds) (hl : looseE t = 0) (hA : Sl w0 w0.heap.size 5 A n (cs.flatMap Cmd.list)) (hn : cs.length = n) (hn4 : n ≤ 4096) (hS : StockAt w0 SA sn ss sd) (hL : Blk w lg 38 #[.slice none 0 0]) :
    Calls Try.prog 12 #[t.val, .slice A n cap, .slice SA sn sc, .func (.func 17) #[] #[.pointer (some ⟨lg, 0, none⟩)]] w (AllcRes (runG sd cs (openM t ds) 0) (wgM (openM t ds) :: curveT sd cs (openM t ds)) lg (w.heap.size + 1) w) := by
  have hG := (looseP_of hl).good
  have hInv := inv_open (ds := ds) hG h.tree.fl h.dat.len (fun k x d hx hd => (h.dat.at_ k x d hx hd).1)
  have hO := fun w (h : TreeD w t ds) => open_any t ds w h hl
  have hl256 : (openM t ds).nodes.length ≤ 256 := by show t.nodes.length ≤ 256; rw [h.tree.nl]; exact hG.nn
  have hnx : (openM t ds).next ≤ 256 := by show (t.fn : Int) ≤ 256; have := hG.fn; omega
  obtain ⟨M0, hM0⟩ : ∃ M, openM t ds = M := ⟨_, rfl⟩
  have hO2 : ∀ w, TreeD w t ds → Calls Try.prog 19 #[t.val] w fun e w' => ∃ wb, e = .returned (.tuple #[.pointer (some ⟨wb, 0, none⟩), .int .i64 0]) ∧ WorldAt w.heap.size w' wb M0 256 ∧ Below w.heap.size w w' := fun w h => by rw [← hM0]; exact hO w h
  rw [hM0] at hInv hl256 hnx ⊢
  obtain ⟨R, hR⟩ : ∃ R, runG sd cs M0 0 = R := ⟨_, rfl⟩
  rw [hR]
  obtain ⟨T, hT⟩ : ∃ T, wgM M0 :: curveT sd cs M0 = T := ⟨_, rfl⟩
  rw [hT]
  unfold TV.val at *
  have hsw := hw0.size
  have hb1 := hw0.alloc hsw (.cells #[.slice t.NA t.nn t.nc, .slice t.FA t.fn t.fc] 25)
  have hB := Blk.new w 25 #[.slice t.NA t.nn t.nc, .slice t.FA t.fn t.fc]
  have b0 := hB.cell 0
  have b1 := hB.cell 1
  have hL1 := hL.alloc (.cells #[.slice t.NA t.nn t.nc, .slice t.FA t.fn t.fc] 25)
  have HTt := Lib.hid hT
  have HT := Lib.hid h; have HA := Lib.hid hA; have HN := Lib.hid hn; have HS := Lib.hid hS; have HO := Lib.hid hO2; have HI := Lib.hid hInv; have HR := Lib.hid hR; have HC := Lib.hid hco
  clear h hA hn hS hO hO2 hInv hR hM0 hl hG hco hT hL
  go_enter Try.func12, Try.ntmps12
  go_upto_region 2 with (go_at_call 19; refine (HO.out _ (HT.out.keep hb1)).mono ?_; rintro e w1 ⟨wb, rfl, hW, hb2⟩)
  rw [World.size_alloc] at hW hb2
  have hb := hb1.trans (hb2.mono (by omega))
  have hLb := hL1.below hb2 (by omega)
  have hbl : Below lg w w1 := (((Below.refl lg w).alloc (Nat.le_of_lt hlg) (.cells #[.slice t.NA t.nn t.nc, .slice t.FA t.fn t.fc] 25))).trans (hb2.mono (by omega))
  obtain ⟨z1, z2⟩ := wgM_small HI.out hl256
  have hcl := curve_look (w.heap.size + 1) wb lg M0 256 [] none 0 0 w1 hW (by omega) (fun f hf => by have := (HI.out.fbd f hf).2.2.2; omega) z1 z2 ⟨hLb, World.ownsRow_nil _ _ _ _, rfl⟩ (by omega) (by omega)
  have Hcl := Lib.hid hcl
  have HW := Lib.hid hW; clear hW
  clear b0 b1 hB hb1 hb2 hcl hLb hL1 z1 z2
  have hs1 := hb.size
  go_upto_region 7 with (go_at_call 17; refine Hcl.out.mono ?_; rintro e w2 ⟨⟨v, rfl⟩, hw2, ⟨A2, n2, c2, hC2⟩, hb2⟩)
  have HW := Lib.hid hw2
  have HC := Lib.hid (show CurS lg (w.heap.size + 1) [wgM M0] A2 n2 c2 w2 from hC2)
  have hsl := hbl.size
  replace hbl := hbl.trans hb2
  replace hb := hb.trans (hb2.mono hlg0)
  clear hw2 hC2 hb2 Hcl
  go_wp2
  go_loopw [34] (fun i wr => ∃ (k : Nat) (M : PW) (xs : List (Nat × Nat)) (A2 : Option Addr) (n2 c2 : Nat), k ≤ n ∧ i = .int .i64 k ∧ runG sd (cs.drop k) M k = R ∧ WorldAt (w.heap.size + 1) wr wb M (256 + 2 * k) ∧ M.Inv ∧ M.nodes.length ≤ 256 ∧ M.next ≤ 256 + k ∧ xs ++ curveT sd (cs.drop k) M = T ∧ xs.length = k + 1 ∧ CurS lg (w.heap.size + 1) xs A2 n2 c2 wr ∧ Below lg w wr ∧ Below w0.heap.size w0 wr) (fun i _ => n - (intOf i).toNat)
  case atStart => exact ⟨0, M0, [wgM M0], A2, n2, c2, Nat.zero_le _, rfl, HR.out, HW.out, HI.out, hl256, by omega, HTt.out, rfl, HC.out, hbl, hb⟩
  case round =>
    clear hb hs1 hl256 hnx HW HC hbl hsl
    obtain ⟨k, M, xs, A2, n2, c2, hk, rfl, hrun, hW, hI, hl, hx, hT, hxl, hC, hbl, hb⟩ := hrel
    have HTk := Lib.hid hT; have HC := Lib.hid hC; have Hxl := Lib.hid hxl
    have hsl := hW.size
    clear hT hC hxl
    have HW := Lib.hid hW; have HI := Lib.hid hI; have HRun := Lib.hid hrun
    clear hW hI hrun
    have hs1 := hb.size
    by_cases hlt : k < n
    · have hki : (k : Int) < n := by omega
      obtain ⟨b, o, x, rfl, hbq, hx2, hc⟩ := (HA.out.below hb (Nat.le_refl _)).get (f := Cmd.list) (fun _ => rfl) HN.out hlt
      have c0 := hc 0 _ rfl
      have c1 := hc 1 _ rfl
      have c2 := hc 2 _ rfl
      have c3 := hc 3 _ rfl
      have c4 := hc 4 _ rfl
      simp only [Nat.add_zero] at c0 c1 c2 c3 c4
      have Hx2 := Lib.hid hx2; clear hx2 hc
      go_upto_region 10 with (fail)
      have HW1 := Lib.hid (HW.out.keep (World.grownBy_alloc wr (.cells #[.int .i64 x.op, .string x.path, .string x.dst, .int .i64 x.mode, .int .i64 x.ref] 44) none))
      have hX := Blk.new wr 44 #[.int .i64 x.op, .string x.path, .string x.dst, .int .i64 x.mode, .int .i64 x.ref]
      have HC1 := Lib.hid (HC.out.fr (Fr.alloc (.cells #[.int .i64 x.op, .string x.path, .string x.dst, .int .i64 x.mode, .int .i64 x.ref] 44) hsl))
      replace hbl := hbl.alloc (by omega) (.cells #[.int .i64 x.op, .string x.path, .string x.dst, .int .i64 x.mode, .int .i64 x.ref] 44)
      replace hb := hb.alloc hb.size (.cells #[.int .i64 x.op, .string x.path, .string x.dst, .int .i64 x.mode, .int .i64 x.ref] 44)
      obtain ⟨W1, hW1⟩ : ∃ W, wr.alloc (.cells #[.int .i64 x.op, .string x.path, .string x.dst, .int .i64 x.mode, .int .i64 x.ref] 44) = W := ⟨_, rfl⟩
      rw [hW1] at HW1 hX hb HC1 hbl ⊢
      clear hW1 c0 c1 c2 c3 c4 HW HC
      have j0 := hX.cell 0
      have j1 := hX.cell 1
      have j2 := hX.cell 2
      have j3 := hX.cell 3
      have j4 := hX.cell 4
      have hSB : Sl W1 (w.heap.size + 1) 1 SA sn (ss.flatMap SC.list) ∧ ∀ (k : Nat) (x : SC) (d : ByteArray), ss[k]? = some x → sd[k]? = some d → Sl W1 (w.heap.size + 1) 1 x.A x.n (bytesC d) :=
        ⟨(HS.out.sl.below hb (Nat.le_refl _)).more (by omega), fun k x d hx hd => ((HS.out.dat k x d hx hd).2.below hb (Nat.le_refl _)).more (by omega)⟩
      have hcall := do_any (w.heap.size + 1) wb M (256 + 2 * k) x (HC.out x (List.mem_of_getElem? Hx2.out)) SA sn sc ss sd W1 HW1.out HI.out (by omega) (by omega) (by omega) (HS.out.keep hb) hSB
      obtain ⟨i1, i2, i3⟩ := inv_do HI.out hl x sd
      have hst := HRun.out
      obtain ⟨E, hE⟩ : ∃ E, doE M x sd = E := ⟨_, rfl⟩
      by_cases h0 : E = 0
      · rw [runG_step Hx2.out (by rw [hE]; exact h0)] at hst
        obtain ⟨M', hM'⟩ : ∃ M', doM M x sd = M' := ⟨_, rfl⟩
        rw [hE, hM'] at hcall
        rw [hM'] at hst i1 i2 i3
        subst h0
        unfold Cmd.cells at hcall
        have Hcall := Lib.hid hcall; have Hst := Lib.hid hst; have Hi1 := Lib.hid i1; have hE0 := Lib.hid hE; have hM2 := Lib.hid hM'
        clear hcall hst i1 hSB hM' hE
        go_upto_region 11 with (go_at_call 20; refine Hcall.out.mono ?_; rintro e w3 ⟨rfl, hw3, hf3⟩)
        have hTk := HTk.out
        rw [curveT_step Hx2.out hE0.out, hM2.out] at hTk
        have HTk2 := Lib.hid hTk
        obtain ⟨z1, z2⟩ := wgM_small Hi1.out i2
        have hC3 := HC1.out.fr hf3
        have hcl := curve_look (w.heap.size + 1) wb lg M' _ xs A2 n2 c2 w3 hw3 (by omega) (fun f hf => by have := (Hi1.out.fbd f hf).2.2.2; omega) z1 z2 hC3 (by have := HC1.out.len; have := Hxl.out; omega) (by omega)
        have Hcl := Lib.hid hcl
        have hb3 := hb.trans (hf3.below.mono (by omega))
        have hbl3 := hbl.trans (hf3.below.mono (by omega))
        clear hw3 hf3 hC3 hcl hTk z1 z2
        go_wp2_with (go_at_call 17; refine Hcl.out.mono ?_; rintro e w2 ⟨⟨v, rfl⟩, hw2, ⟨A3, n3, c3, hC2⟩, hb2⟩)
        go_roundw
        case rel => exact ⟨k + 1, M', xs ++ [wgM M'], A3, n3, c3, by omega, by go_num, Hst.out, hw2.mono (by omega), Hi1.out, i2, by omega, by rw [List.append_assoc]; exact HTk2.out, by rw [List.length_append, Hxl.out]; rfl, hC2, hbl3.trans hb2, hb3.trans (hb2.mono hlg0)⟩
        case measure => simp [intOf]; omega
      · rw [runG_stop Hx2.out (by rw [hE]; exact h0)] at hst
        rw [doM_same (by rw [hE]; exact h0)] at hcall
        rw [hE] at hcall hst
        obtain ⟨e1, e2⟩ := ne_b h0
        unfold Cmd.cells at hcall
        have Hcall := Lib.hid hcall; have Hst := Lib.hid hst; have hE0 := Lib.hid (show doE M x sd ≠ 0 by rw [hE]; exact h0); have H0 := Lib.hid h0
        clear hcall hst i1 hSB hE h0
        go_upto_region 11 with (go_at_call 20; refine Hcall.out.mono ?_; rintro e w3 ⟨rfl, hw3, hf3⟩; have HW3 := Lib.hid hw3; clear hw3)
        go_wp2
        go_ret3
        have hTk := HTk.out
        rw [curveT_stop Hx2.out hE0.out, List.append_nil] at hTk
        refine ⟨wb, ?_, ⟨A2, n2, c2, ?_⟩, hbl.trans (hf3.below.mono (by omega))⟩
        · rw [← Hst.out]; rfl
        · rw [← hTk]; exact HC1.out.fr hf3
    · have hki : ¬ (k : Int) < n := by omega
      have hst := HRun.out
      rw [runG_end (by rw [HN.out]; omega)] at hst
      have Hst := Lib.hid hst; clear hst
      have hkn : k = n := by omega
      go_wp2
      go_ret3
      have hTk := HTk.out
      rw [curveT_end (by rw [HN.out]; omega), List.append_nil] at hTk
      refine ⟨wb, ?_, ⟨A2, n2, c2, ?_⟩, hbl⟩
      · rw [← Hst.out, hkn]; rfl
      · rw [← hTk]; exact HC.out
end Go.Proofs.Ytanaccoelifcpaa

namespace Go.Proofs.Ytanaccoelifcpaa
open Go.RowKit

def curveR (t : TV) (ds : List ByteArray) (cs : List Cmd) (sd : List ByteArray) : List (Nat × Nat) := if looseE t = 0 then wgM (openM t ds) :: curveT sd cs (openM t ds) else []
def CurveRes (T : List (Nat × Nat)) (k : Nat) (E : Int) (w : World) (e : Ending) (w' : World) : Prop :=
  ∃ (A : Option Addr) (n c : Nat), e = .returned (.tuple #[.slice A n c, .int .i64 k, .int .i64 E]) ∧ w'.ownsRow w.heap.size 41 1 (.slice A n c) n (T.flatMap cxC) ∧ T.length = n ∧ Below w.heap.size w w'
set_option maxRecDepth 100000 in
set_option maxHeartbeats 4000000 in
theorem Curve_any (t : TV) (ds : List ByteArray) (cs : List Cmd) (hco : ∀ c ∈ cs, OpOk c) (A : Option Addr) (n cap : Nat) (SA : Option Addr) (sn sc : Nat) (ss : List SC) (sd : List ByteArray) (w : World) (h : TreeD w t ds) (hA : Sl w w.heap.size 5 A n (cs.flatMap Cmd.list)) (hn : cs.length = n) (hn4 : n ≤ 4096) (hS : StockAt w SA sn ss sd) :
    Calls Try.prog 11 #[t.val, .slice A n cap, .slice SA sn sc] w (CurveRes (curveR t ds cs sd) (runR t ds cs sd).2.1 (runR t ds cs sd).2.2 w) := by
  have hb := ((Below.refl w.heap.size w).alloc (Nat.le_refl _) (.cells #[.slice t.NA t.nn t.nc, .slice t.FA t.fn t.fc] 25)).alloc (by simp) (.cells #[.slice none 0 0] 38)
  have hT := (Blk.new w 25 #[.slice t.NA t.nn t.nc, .slice t.FA t.fn t.fc]).alloc (.cells #[.slice none 0 0] 38)
  have hL := Blk.new (w.alloc (.cells #[.slice t.NA t.nn t.nc, .slice t.FA t.fn t.fc] 25)) 38 #[.slice none 0 0]
  rw [World.size_alloc] at hL
  obtain ⟨W0, hW0⟩ : ∃ W, ((w.alloc (.cells #[.slice t.NA t.nn t.nc, .slice t.FA t.fn t.fc] 25)).alloc (.cells #[.slice none 0 0] 38)) = W := ⟨_, rfl⟩
  have hs0 : W0.heap.size = w.heap.size + 1 + 1 := by rw [← hW0]; simp
  rw [hW0] at hb hT hL
  have b0 := hT.cell 0; have b1 := hT.cell 1
  by_cases hl : looseE t = 0
  · have e1 : runR t ds cs sd = runG sd cs (openM t ds) 0 := by unfold runR; rw [if_pos hl]
    have e2 : curveR t ds cs sd = wgM (openM t ds) :: curveT sd cs (openM t ds) := by unfold curveR; rw [if_pos hl]
    have hcall := allc_any t ds cs hco A n cap SA sn sc ss sd (w.heap.size + 1) w W0 hb (Nat.le_succ _) (by omega) h hl hA hn hn4 hS hL
    rw [e1, e2]
    obtain ⟨R, hR⟩ : ∃ R, runG sd cs (openM t ds) 0 = R := ⟨_, rfl⟩
    obtain ⟨T, hTT⟩ : ∃ T, wgM (openM t ds) :: curveT sd cs (openM t ds) = T := ⟨_, rfl⟩
    rw [hR, hTT] at hcall ⊢
    unfold TV.val at hcall ⊢
    have Hcall := Lib.hid hcall; have HW0 := Lib.hid hW0
    clear hcall hR hTT hS hA h e1 e2 hW0
    go_enter Try.func11, Try.ntmps11
    go_upto_region 2 with (fail)
    rw [HW0.out]
    go_wp2_with (go_at_call 12; refine Hcall.out.mono ?_; rintro e w1 ⟨wb, rfl, ⟨A2, n2, c2, hC⟩, hb1⟩; have l0 := hC.lB.cell 0; have hCr := hC.row; have hCn := hC.len; clear hC)
    go_ret3
    exact ⟨A2, n2, c2, rfl, own_base hCr (by omega), hCn, hb.trans (hb1.mono (Nat.le_succ _))⟩
  · have e1 : runR t ds cs sd = (openM zeroTV [], 0, looseE t) := by unfold runR; rw [if_neg hl]
    have e2 : curveR t ds cs sd = [] := by unfold curveR; rw [if_neg hl]
    have hcall := all_no t A n cap SA sn sc (.func (.func 17) #[] #[.pointer (some ⟨w.heap.size + 1, 0, none⟩)]) W0 (h.tree.keep hb) hl
    rw [e1, e2]
    obtain ⟨E, hE⟩ : ∃ E, looseE t = E := ⟨_, rfl⟩
    rw [hE] at hcall ⊢
    unfold TV.val at hcall ⊢
    have Hcall := Lib.hid hcall; have HW0 := Lib.hid hW0
    clear hcall hE hS hA h e1 e2 hW0 hl
    go_enter Try.func11, Try.ntmps11
    go_upto_region 2 with (fail)
    rw [HW0.out]
    go_wp2_with (go_at_call 12; refine Hcall.out.mono ?_; rintro e w1 ⟨rfl, hb1⟩; have l0 := (hL.below hb1 (by omega)).cell 0)
    go_ret3
    exact ⟨none, 0, 0, rfl, World.ownsRow_nil _ _ _ _, rfl, hb.trans (hb1.mono (by omega))⟩
end Go.Proofs.Ytanaccoelifcpaa
