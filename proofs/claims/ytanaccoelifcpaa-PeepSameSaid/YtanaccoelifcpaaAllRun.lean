/- model.all with a look that does nothing: instructions, one behind the other, till one is refused. model.Run. -/
import Derived.Test.YtanaccoelifcpaaDoInv
import Derived.Test.YtanaccoelifcpaaLaw7
import Derived.OwnWalk

namespace Go.Proofs.Ytanaccoelifcpaa
open Go.RowKit

/-- Instructions, one behind the other: the world, how many were done, the error. -/
def runG (sd : List ByteArray) : List Cmd → PW → Nat → PW × Nat × Int
  | [], M, k => (M, k, 0)
  | c :: cs, M, k => if doE M c sd = 0 then runG sd cs (doM M c sd) (k + 1) else (M, k, doE M c sd)
theorem drop_at7 {α : Type} {l : List α} {k : Nat} {x : α} (h : l[k]? = some x) : l.drop k = x :: l.drop (k + 1) := by
  obtain ⟨hk, e⟩ := List.getElem?_eq_some_iff.1 h
  rw [List.drop_eq_getElem_cons hk, e]
theorem runG_step {sd : List ByteArray} {cs : List Cmd} {M : PW} {k : Nat} {c : Cmd} (hc : cs[k]? = some c) (h : doE M c sd = 0) : runG sd (cs.drop k) M k = runG sd (cs.drop (k + 1)) (doM M c sd) (k + 1) := by
  rw [drop_at7 hc, runG, if_pos h]
theorem runG_stop {sd : List ByteArray} {cs : List Cmd} {M : PW} {k : Nat} {c : Cmd} (hc : cs[k]? = some c) (h : doE M c sd ≠ 0) : runG sd (cs.drop k) M k = (M, k, doE M c sd) := by
  rw [drop_at7 hc, runG, if_neg h]
theorem runG_end {sd : List ByteArray} {cs : List Cmd} {M : PW} {k : Nat} (h : cs.length ≤ k) : runG sd (cs.drop k) M k = (M, k, 0) := by
  rw [List.drop_eq_nil_of_le h]; rfl
theorem doM_same {M : PW} {c : Cmd} {sd : List ByteArray} (h : doE M c sd ≠ 0) : doM M c sd = M := by
  rw [doM, if_neg (fun e => h e.1)]
theorem look_none (v : Value) (w : World) : Calls Try.prog 13 #[v] w fun e w' => (∃ v, e = .returned v) ∧ w' = w := by
  go_enter Try.func13, Try.ntmps13
  go_wp2
  exact bodyPost_end (results_none rfl _ _ _) rfl ⟨⟨_, rfl⟩, rfl⟩
/-- What all hands back, of a tree that is loose and a list that is not too long. -/
def AllRes (R : PW × Nat × Int) (w : World) (e : Ending) (w' : World) : Prop :=
  ∃ wb, e = .returned (.tuple #[.pointer (some ⟨wb, 0, none⟩), .int .i64 R.2.1, .int .i64 R.2.2]) ∧ (∃ s, s ≤ 100000 ∧ WorldAt (w.heap.size + 1) w' wb R.1 s) ∧ R.1.Inv ∧ R.1.nodes.length ≤ 256 ∧ R.1.next ≤ 100000 ∧ Below w.heap.size w w'
set_option maxRecDepth 100000 in
set_option maxHeartbeats 4000000 in
theorem all_any (t : TV) (ds : List ByteArray) (cs : List Cmd) (hco : ∀ c ∈ cs, (-9223372036854775808 ≤ c.op ∧ c.op ≤ 9223372036854775807)) (A : Option Addr) (n cap : Nat) (SA : Option Addr) (sn sc : Nat) (ss : List SC) (sd : List ByteArray) (w : World) (h : TreeD w t ds) (hl : looseE t = 0) (hA : Sl w w.heap.size 5 A n (cs.flatMap Cmd.list)) (hn : cs.length = n) (hn4 : n ≤ 4096) (hS : StockAt w SA sn ss sd) :
    Calls Try.prog 12 #[t.val, .slice A n cap, .slice SA sn sc, fnV 13] w (AllRes (runG sd cs (openM t ds) 0) w) := by
  have hG := (looseP_of hl).good
  have hInv := inv_open (ds := ds) hG h.tree.fl h.dat.len (fun k x d hx hd => (h.dat.at_ k x d hx hd).1)
  have hO := fun w (h : TreeD w t ds) => open_any t ds w h hl
  have hl256 : (openM t ds).nodes.length ≤ 256 := by show t.nodes.length ≤ 256; rw [h.tree.nl]; exact hG.nn
  have hnx : (openM t ds).next ≤ 256 := by show (t.fn : Int) ≤ 256; have := hG.fn; omega
  obtain ⟨M0, hM0⟩ : ∃ M, openM t ds = M := ⟨_, rfl⟩
  have hO2 : ∀ w, TreeD w t ds → Calls Try.prog 19 #[t.val] w fun e w' => ∃ wb, e = .returned (.tuple #[.pointer (some ⟨wb, 0, none⟩), .int .i64 0]) ∧ WorldAt w.heap.size w' wb M0 256 ∧ Below w.heap.size w w' := fun w h => by rw [← hM0]; exact hO w h
  rw [hM0] at hInv hl256 hnx ⊢
  obtain ⟨R, hR⟩ : ∃ R, runG sd cs M0 0 = R := ⟨_, rfl⟩
  rw [hR]
  unfold TV.val fnV at *
  have hb1 := (Below.refl w.heap.size w).alloc (Nat.le_refl _) (.cells #[.slice t.NA t.nn t.nc, .slice t.FA t.fn t.fc] 25)
  have hB := Blk.new w 25 #[.slice t.NA t.nn t.nc, .slice t.FA t.fn t.fc]
  have b0 := hB.cell 0
  have b1 := hB.cell 1
  have HT := Lib.hid h; have HA := Lib.hid hA; have HN := Lib.hid hn; have HS := Lib.hid hS; have HO := Lib.hid hO2; have HI := Lib.hid hInv; have HR := Lib.hid hR; have HC := Lib.hid hco
  clear h hA hn hS hO hO2 hInv hR hM0 hl hG hco
  go_enter Try.func12, Try.ntmps12
  go_upto_region 2 with (go_at_call 19; refine (HO.out _ (HT.out.keep hb1)).mono ?_; rintro e w1 ⟨wb, rfl, hW, hb2⟩)
  rw [World.size_alloc] at hW hb2
  have hb := hb1.trans (hb2.mono (by omega))
  have HW := Lib.hid hW; clear hW
  clear b0 b1 hB hb1 hb2
  have hs1 := hb.size
  go_upto_region 7 with (go_at_call 13; refine (look_none _ _).mono ?_; rintro e w2 ⟨⟨v, rfl⟩, hw⟩; rw [hw]; clear hw)
  go_wp2
  go_loopw [34] (fun i wr => ∃ (k : Nat) (M : PW), k ≤ n ∧ i = .int .i64 k ∧ runG sd (cs.drop k) M k = R ∧ WorldAt (w.heap.size + 1) wr wb M (256 + 2 * k) ∧ M.Inv ∧ M.nodes.length ≤ 256 ∧ M.next ≤ 256 + k ∧ Below w.heap.size w wr) (fun i _ => n - (intOf i).toNat)
  case atStart => exact ⟨0, M0, Nat.zero_le _, rfl, HR.out, HW.out, HI.out, hl256, by omega, hb⟩
  case round =>
    clear hb hs1 hl256 hnx HW
    obtain ⟨k, M, hk, rfl, hrun, hW, hI, hl, hx, hb⟩ := hrel
    have HW := Lib.hid hW; have HI := Lib.hid hI; have HRun := Lib.hid hrun
    clear hW hI hrun
    have hs1 := hb.size
    by_cases hlt : k < n
    · have hki : (k : Int) < n := by omega
      obtain ⟨b, o, x, rfl, hbl, hx2, hc⟩ := (HA.out.below hb (Nat.le_refl _)).get (f := Cmd.list) (fun _ => rfl) HN.out hlt
      have c0 := hc 0 _ rfl
      have c1 := hc 1 _ rfl
      have c2 := hc 2 _ rfl
      have c3 := hc 3 _ rfl
      have c4 := hc 4 _ rfl
      simp only [Nat.add_zero] at c0 c1 c2 c3 c4
      have Hx2 := Lib.hid hx2; clear hx2 hc
      go_upto_region 10 with (fail)
      have HW1 := Lib.hid (HW.out.keep (World.grownBy_alloc wr (.cells #[.int .i64 x.op, .string x.path, .string x.dst, .int .i64 x.mode, .int .i64 x.ref] 44) none))
      have hX := Blk.new wr 44 #[.int .i64 x.op, .string x.path, .string x.dst, .int .i64 x.mode, .int .i64 x.ref]
      replace hb := hb.alloc hb.size (.cells #[.int .i64 x.op, .string x.path, .string x.dst, .int .i64 x.mode, .int .i64 x.ref] 44)
      obtain ⟨W1, hW1⟩ : ∃ W, wr.alloc (.cells #[.int .i64 x.op, .string x.path, .string x.dst, .int .i64 x.mode, .int .i64 x.ref] 44) = W := ⟨_, rfl⟩
      rw [hW1] at HW1 hX hb ⊢
      clear hW1 c0 c1 c2 c3 c4 HW
      have j0 := hX.cell 0
      have j1 := hX.cell 1
      have j2 := hX.cell 2
      have j3 := hX.cell 3
      have j4 := hX.cell 4
      have hSB : Sl W1 (w.heap.size + 1) 1 SA sn (ss.flatMap SC.list) ∧ ∀ (k : Nat) (x : SC) (d : ByteArray), ss[k]? = some x → sd[k]? = some d → Sl W1 (w.heap.size + 1) 1 x.A x.n (bytesC d) :=
        ⟨(HS.out.sl.below hb (Nat.le_refl _)).more (by omega), fun k x d hx hd => ((HS.out.dat k x d hx hd).2.below hb (Nat.le_refl _)).more (by omega)⟩
      have hcall := do_any (w.heap.size + 1) wb M (256 + 2 * k) x (HC.out x (List.mem_of_getElem? Hx2.out)) SA sn sc ss sd W1 HW1.out HI.out (by omega) (by omega) (by omega) (HS.out.keep hb) hSB
      obtain ⟨i1, i2, i3⟩ := inv_do HI.out hl x sd
      have hst := HRun.out
      obtain ⟨E, hE⟩ : ∃ E, doE M x sd = E := ⟨_, rfl⟩
      by_cases h0 : E = 0
      · rw [runG_step Hx2.out (by rw [hE]; exact h0)] at hst
        obtain ⟨M', hM'⟩ : ∃ M', doM M x sd = M' := ⟨_, rfl⟩
        rw [hE, hM'] at hcall
        rw [hM'] at hst i1 i2 i3
        subst h0
        unfold Cmd.cells at hcall
        have Hcall := Lib.hid hcall; have Hst := Lib.hid hst; have Hi1 := Lib.hid i1
        clear hcall hst i1 hSB hM' hE
        go_upto_region 11 with (go_at_call 20; refine Hcall.out.mono ?_; rintro e w3 ⟨rfl, hw3, hf3⟩; have HW3 := Lib.hid hw3; clear hw3)
        go_wp2_with (go_at_call 13; refine (look_none _ _).mono ?_; rintro e w2 ⟨⟨v, rfl⟩, hw⟩; rw [hw]; clear hw)
        go_roundw
        case rel => exact ⟨k + 1, M', by omega, by go_num, Hst.out, HW3.out.mono (by omega), Hi1.out, i2, by omega, hb.trans (hf3.below.mono (by omega))⟩
        case measure => simp [intOf]; omega
      · rw [runG_stop Hx2.out (by rw [hE]; exact h0)] at hst
        rw [doM_same (by rw [hE]; exact h0)] at hcall
        rw [hE] at hcall hst
        obtain ⟨e1, e2⟩ := ne_b h0
        unfold Cmd.cells at hcall
        have Hcall := Lib.hid hcall; have Hst := Lib.hid hst; have H0 := Lib.hid h0
        clear hcall hst i1 hSB hE h0
        go_upto_region 11 with (go_at_call 20; refine Hcall.out.mono ?_; rintro e w3 ⟨rfl, hw3, hf3⟩; have HW3 := Lib.hid hw3; clear hw3)
        go_wp2
        go_ret3
        refine ⟨wb, ?_, ?_, ?_, ?_, ?_, hb.trans (hf3.below.mono (by omega))⟩
        · rw [← Hst.out]; rfl
        · rw [← Hst.out]; exact ⟨_, by omega, HW3.out⟩
        · rw [← Hst.out]; exact HI.out
        · rw [← Hst.out]; exact hl
        · rw [← Hst.out]; show M.next ≤ 100000; omega
    · have hki : ¬ (k : Int) < n := by omega
      have hst := HRun.out
      rw [runG_end (by rw [HN.out]; omega)] at hst
      have Hst := Lib.hid hst; clear hst
      have hkn : k = n := by omega
      go_wp2
      go_ret3
      refine ⟨wb, ?_, ?_, ?_, ?_, ?_, hb⟩
      · rw [← Hst.out, hkn]; rfl
      · rw [← Hst.out]; exact ⟨_, by omega, HW.out⟩
      · rw [← Hst.out]; exact HI.out
      · rw [← Hst.out]; exact hl
      · rw [← Hst.out]; show M.next ≤ 100000; omega
theorem all_no (t : TV) (A : Option Addr) (n cap : Nat) (SA : Option Addr) (sn sc : Nat) (f : Value) (w : World) (h : TreeAt w t) (hl : looseE t ≠ 0) :
    Calls Try.prog 12 #[t.val, .slice A n cap, .slice SA sn sc, f] w fun e w' => e = .returned (.tuple #[.pointer none, .int .i64 0, .int .i64 (looseE t)]) ∧ Below w.heap.size w w' := by
  have hO := fun w (h : TreeAt w t) => open_no t w h hl
  obtain ⟨E, hE⟩ : ∃ E, looseE t = E := ⟨_, rfl⟩
  rw [hE] at hO hl ⊢
  obtain ⟨e1, e2⟩ := ne_b hl
  unfold TV.val at *
  have hb1 := (Below.refl w.heap.size w).alloc (Nat.le_refl _) (.cells #[.slice t.NA t.nn t.nc, .slice t.FA t.fn t.fc] 25)
  have hB := Blk.new w 25 #[.slice t.NA t.nn t.nc, .slice t.FA t.fn t.fc]
  have b0 := hB.cell 0
  have b1 := hB.cell 1
  have HT := Lib.hid h; have HO := Lib.hid hO; have HL := Lib.hid hl
  clear h hO hl hE
  go_enter Try.func12, Try.ntmps12
  go_wp2_with (go_at_call 19; refine (HO.out _ (HT.out.keep hb1)).mono ?_; rintro e w1 ⟨rfl, hb2⟩)
  go_ret3
  exact ⟨rfl, hb1.trans (hb2.mono (by simp))⟩
theorem all_long (t : TV) (ds : List ByteArray) (A : Option Addr) (n cap : Nat) (SA : Option Addr) (sn sc : Nat) (f : Value) (w : World) (h : TreeD w t ds) (hl : looseE t = 0) (hn : 4096 < n) (hm : n ≤ 9223372036854775807) :
    Calls Try.prog 12 #[t.val, .slice A n cap, .slice SA sn sc, f] w fun e w' => e = .returned (.tuple #[.pointer none, .int .i64 0, .int .i64 2]) ∧ Below w.heap.size w w' := by
  have hO := fun w (h : TreeD w t ds) => open_any t ds w h hl
  have hn' : (4096 : Int) < n := by omega
  unfold TV.val at *
  have hb1 := (Below.refl w.heap.size w).alloc (Nat.le_refl _) (.cells #[.slice t.NA t.nn t.nc, .slice t.FA t.fn t.fc] 25)
  have hB := Blk.new w 25 #[.slice t.NA t.nn t.nc, .slice t.FA t.fn t.fc]
  have b0 := hB.cell 0
  have b1 := hB.cell 1
  have HT := Lib.hid h; have HO := Lib.hid hO; have HL := Lib.hid hl
  clear h hO hl
  go_enter Try.func12, Try.ntmps12
  go_wp2_with (go_at_call 19; refine (HO.out _ (HT.out.keep hb1)).mono ?_; rintro e w1 ⟨wb, rfl, _, hb2⟩)
  go_ret3
  exact ⟨rfl, hb1.trans (hb2.mono (by simp))⟩
end Go.Proofs.Ytanaccoelifcpaa

namespace Go.Proofs.Ytanaccoelifcpaa
open Go.RowKit

/-- What Run hands back, of a tree that is loose and a list that is not too long. -/
def RunRes (R : PW × Nat × Int) (w : World) (e : Ending) (w' : World) : Prop :=
  ∃ u, e = .returned (.tuple #[u.val, .int .i64 R.2.1, .int .i64 R.2.2]) ∧ (∃ S, ToldAs R.1 w.heap.size w' S u) ∧ Below w.heap.size w w'
set_option maxRecDepth 100000 in
set_option maxHeartbeats 4000000 in
theorem run_any (t : TV) (ds : List ByteArray) (cs : List Cmd) (hco : ∀ c ∈ cs, (-9223372036854775808 ≤ c.op ∧ c.op ≤ 9223372036854775807)) (A : Option Addr) (n cap : Nat) (SA : Option Addr) (sn sc : Nat) (ss : List SC) (sd : List ByteArray) (w : World) (h : TreeD w t ds) (hl : looseE t = 0) (hA : Sl w w.heap.size 5 A n (cs.flatMap Cmd.list)) (hn : cs.length = n) (hn4 : n ≤ 4096) (hS : StockAt w SA sn ss sd) :
    Calls Try.prog 7 #[t.val, .slice A n cap, .slice SA sn sc] w (RunRes (runG sd cs (openM t ds) 0) w) := by
  obtain ⟨R, hR⟩ : ∃ R, runG sd cs (openM t ds) 0 = R := ⟨_, rfl⟩
  rw [hR]
  have hw2 : Below w.heap.size w ((w.alloc (.cells #[.slice t.NA t.nn t.nc, .slice t.FA t.fn t.fc] 25)).alloc (.cells #[.slice none 0 0, .slice none 0 0] 25)) := ((Below.refl _ _).alloc (Nat.le_refl _) _).alloc (by simp) _
  have hT := (Blk.new w 25 #[.slice t.NA t.nn t.nc, .slice t.FA t.fn t.fc]).alloc (.cells #[.slice none 0 0, .slice none 0 0] 25)
  have hQ := Blk.new (w.alloc (.cells #[.slice t.NA t.nn t.nc, .slice t.FA t.fn t.fc] 25)) 25 #[.slice none 0 0, .slice none 0 0]
  rw [World.size_alloc] at hQ
  obtain ⟨W0, hW0⟩ : ∃ W, ((w.alloc (.cells #[.slice t.NA t.nn t.nc, .slice t.FA t.fn t.fc] 25)).alloc (.cells #[.slice none 0 0, .slice none 0 0] 25)) = W := ⟨_, rfl⟩
  have hs0 : W0.heap.size = w.heap.size + 1 + 1 := by rw [← hW0]; simp
  have hcall := all_any t ds cs hco A n cap SA sn sc ss sd W0 (by rw [← hW0]; exact h.keep hw2) hl (by rw [← hW0]; exact (hA.below hw2 (Nat.le_refl _)).more (by simp; omega)) hn hn4 (by rw [← hW0]; exact hS.keep hw2)
  rw [hR] at hcall
  unfold TV.val fnV at hcall
  unfold TV.val
  rw [hW0] at hw2 hT hQ
  have b0 := hT.cell 0
  have b1 := hT.cell 1
  have Hcall := Lib.hid hcall; have HW0 := Lib.hid hW0
  clear hcall hR hS hA h hW0
  go_enter Try.func7, Try.ntmps7
  go_upto_region 1 with (fail)
  rw [HW0.out]
  have hcmp : ∀ (b : Nat) (w : World), (binOp .eql 50 (.pointer (some ⟨b, 0, none⟩)) (.pointer none)).run Try.prog w = .ok (.bool false) w := fun _ _ => rfl
  go_upto_region 4 with (go_at_call 12; refine Hcall.out.mono ?_; rintro e w1 ⟨wb, rfl, ⟨s, hs, hW⟩, hI, hl2, hx, hb1⟩)
  have HW := Lib.hid hW; have HI := Lib.hid hI
  clear hW hI Hcall b0 b1
  have hsz1 := hb1.size
  have hQ1 := hQ.below hb1 (by omega)
  have hb := hw2.trans (hb1.mono (by omega))
  have htell := tell_any (W0.heap.size + 1) wb R.1 s w1 HW.out HI.out.apart (fun x hx => HI.out.file hx) (fun x hx => by have := HI.out.lt hx; omega) (fun f hf => by have := (HI.out.fbd f hf).2.2.2; omega) (by omega)
  have Htell := Lib.hid htell; clear htell
  have hQl := hQ1.lt
  go_wp2_with (first | (go_at_call 14; refine Htell.out.mono ?_; intro e w3 hT3; obtain ⟨S, u, rfl, hTA, hb3⟩ := told_of hT3; have hQ3 := hQ1.below hb3 hQl; unfold TV.val) | (refine wpList_store_blk rfl 25 (.tmp 6) (.tmp 25) rfl hQ3 #[.slice u.NA u.nn u.nc, .slice u.FA u.fn u.fc] rfl rfl (show (Try.prog.info? 25).map (·.size) = some 2 by kernel_rfl) rfl (by simp [Value.oneCell']) ?_; intro w4 hB4 hg4 hs4))
  refine ret_cell_tt rfl rfl (load_blk hB4 Try.underlying25 rfl (show (Try.prog.info? 25).map (·.size) = some 2 by kernel_rfl)) rfl ?_
  refine ⟨u, rfl, ⟨S, (hTA.store hQ3 hg4).base (by omega)⟩, ?_⟩
  exact (hb.trans (hb3.mono (by omega))).trans (below_grown hg4 (by have := hb3.size; omega) (fun g e => by injection e with e; omega))
set_option maxRecDepth 100000 in
/-- Run of a tree or a list that is refused. -/
theorem run_no (E : Int) (t : TV) (A : Option Addr) (n cap : Nat) (SA : Option Addr) (sn sc : Nat) (w : World)
    (hcall : ∀ W, Below w.heap.size w W → Calls Try.prog 12 #[t.val, .slice A n cap, .slice SA sn sc, fnV 13] W fun e w' => e = .returned (.tuple #[.pointer none, .int .i64 0, .int .i64 E]) ∧ Below W.heap.size W w') :
    Calls Try.prog 7 #[t.val, .slice A n cap, .slice SA sn sc] w fun e w' => e = .returned (.tuple #[zeroTV.val, .int .i64 0, .int .i64 E]) ∧ Below w.heap.size w w' := by
  have hw2 : Below w.heap.size w ((w.alloc (.cells #[.slice t.NA t.nn t.nc, .slice t.FA t.fn t.fc] 25)).alloc (.cells #[.slice none 0 0, .slice none 0 0] 25)) := ((Below.refl _ _).alloc (Nat.le_refl _) _).alloc (by simp) _
  have hT := (Blk.new w 25 #[.slice t.NA t.nn t.nc, .slice t.FA t.fn t.fc]).alloc (.cells #[.slice none 0 0, .slice none 0 0] 25)
  have hQ := Blk.new (w.alloc (.cells #[.slice t.NA t.nn t.nc, .slice t.FA t.fn t.fc] 25)) 25 #[.slice none 0 0, .slice none 0 0]
  rw [World.size_alloc] at hQ
  obtain ⟨W0, hW0⟩ : ∃ W, ((w.alloc (.cells #[.slice t.NA t.nn t.nc, .slice t.FA t.fn t.fc] 25)).alloc (.cells #[.slice none 0 0, .slice none 0 0] 25)) = W := ⟨_, rfl⟩
  have hs0 : W0.heap.size = w.heap.size + 1 + 1 := by rw [← hW0]; simp
  have hc := hcall W0 (by rw [← hW0]; exact hw2)
  unfold TV.val fnV at hc
  unfold TV.val
  rw [hW0] at hw2 hT hQ
  have b0 := hT.cell 0
  have b1 := hT.cell 1
  have Hcall := Lib.hid hc; have HW0 := Lib.hid hW0
  clear hcall hc hW0
  have hcmp : ∀ (w : World), (binOp .eql 50 (.pointer none) (.pointer none)).run Try.prog w = .ok (.bool true) w := fun _ => rfl
  go_enter Try.func7, Try.ntmps7
  go_upto_region 1 with (fail)
  rw [HW0.out]
  go_upto_region 3 with (go_at_call 12; refine Hcall.out.mono ?_; rintro e w1 ⟨rfl, hb1⟩)
  have hQ1 := hQ.below hb1 (by omega)
  have hb := hw2.trans (hb1.mono (by omega))
  have hsz1 := hb1.size
  go_wp2_with (refine wpList_store_blk rfl 25 (.tmp 6) (.tmp 22) rfl hQ1 #[.slice none 0 0, .slice none 0 0] rfl rfl (show (Try.prog.info? 25).map (·.size) = some 2 by kernel_rfl) rfl (by kernel_rfl) ?_; intro w4 hB4 hg4 hs4)
  refine ret_cell_tt rfl rfl (load_blk hB4 Try.underlying25 rfl (show (Try.prog.info? 25).map (·.size) = some 2 by kernel_rfl)) rfl ?_
  exact ⟨rfl, hb.trans (below_grown hg4 (by omega) (fun g e => by injection e with e; omega))⟩
end Go.Proofs.Ytanaccoelifcpaa
