/- tree.Loose. -/
import Derived.Test.YtanaccoelifcpaaTreeV
import Derived.Test.YtanaccoelifcpaaPath
import Derived.Test.YtanaccoelifcpaaKit
namespace Go.Proofs.Ytanaccoelifcpaa
open Go.RowKit

def leS (a b : ByteArray) : Bool := Op.bytesLess a.toList b.toList || a.toList == b.toList
def k0 : List UInt8 → Int := fun k => if k = [] then 1 else 0
def okMode (m : Int) : Bool := decide (0 ≤ m ∧ m ≤ 511)
/-- Is a node refused outright? -/
def badNode (n : Node) (f : List UInt8 → Int) (files : Int) (last : ByteArray) : Bool :=
  !validL n.path.data.toList || (leS n.path last || (f (parentB n.path).data.toList != 1 || (decide (n.file < -1) || decide (files < n.file))))
def looseRun : List Node → (List UInt8 → Int) → Int → ByteArray → Option Int
  | [], _, files, _ => some files
  | n :: t, f, files, last =>
    if badNode n f files last = true then none
    else if n.file = -1 then (if okMode n.mode = true then looseRun t (fun k => if k = n.path.data.toList then 1 else if k = n.path.data.toList then 2 else f k) files n.path else none)
    else if n.mode = 0 then looseRun t (fun k => if k = n.path.data.toList then 2 else f k) (if n.file = files then files + 1 else files) n.path
    else none
def looseE (t : TV) : Int :=
  if boundB t = true then 31
  else match looseRun t.nodes k0 0 ByteArray.empty with
    | some f => if f = t.fn ∧ (t.files.all fun x => okMode x.mode) = true then 0 else 30
    | none => 30

def LooseBad (t : TV) (w : World) (a : Act) (wr : World) : Prop := ∃ u : Nat → Value, a = ⟨List.toArray (u 0 :: u 1 :: u 2 :: u 3 :: u 4 :: u 5 :: u 6 :: u 7 :: u 8 :: u 9 :: u 10 :: u 11 :: u 12 :: u 13 :: u 14 :: u 15 :: u 16 :: u 17 :: u 18 :: u 19 :: u 20 :: u 21 :: u 22 :: u 23 :: u 24 :: u 25 :: u 26 :: u 27 :: u 28 :: u 29 :: u 30 :: u 31 :: u 32 :: u 33 :: u 34 :: u 35 :: u 36 :: u 37 :: u 38 :: u 39 :: u 40 :: u 41 :: u 42 :: u 43 :: u 44 :: u 45 :: u 46 :: u 47 :: u 48 :: u 49 :: u 50 :: u 51 :: u 52 :: u 53 :: u 54 :: u 55 :: u 56 :: u 57 :: u 58 :: u 59 :: u 60 :: u 61 :: u 62 :: u 63 :: u 64 :: u 65 :: u 66 :: u 67 :: u 68 :: u 69 :: u 70 :: u 71 :: u 72 :: u 73 :: u 74 :: u 75 :: u 76 :: u 77 :: u 78 :: u 79 :: u 80 :: u 81 :: u 82 :: u 83 :: u 84 :: u 85 :: u 86 :: u 87 :: u 88 :: u 89 :: u 90 :: u 91 :: u 92 :: u 93 :: []), []⟩ ∧ looseE t = 30 ∧ Below w.heap.size w wr
/-- What holds ahead of each round over the nodes. -/
def NodesAt (t : TV) (w wr : World) (bm : Nat) (v4 v5 : Value) (k : Nat) : Prop :=
  ∃ (m : Nat) (f : List UInt8 → Int) (files : Int) (last : ByteArray), looseRun t.nodes k0 0 ByteArray.empty = looseRun (t.nodes.drop k) f files last ∧ 0 ≤ files ∧ files ≤ k ∧ v4 = .int .i64 files ∧ v5 = .string last ∧ m ≤ 2 * k + 1 ∧ w.heap.size < bm ∧ KM wr bm m f ∧
    Blk wr w.heap.size 25 #[.slice t.NA t.nn t.nc, .slice t.FA t.fn t.fc] ∧ Below w.heap.size w wr
theorem LooseBad.mk {t : TV} {w wr : World} {a : Act} (h : a = ⟨List.toArray (a.tmps.getD 0 undef :: a.tmps.getD 1 undef :: a.tmps.getD 2 undef :: a.tmps.getD 3 undef :: a.tmps.getD 4 undef :: a.tmps.getD 5 undef :: a.tmps.getD 6 undef :: a.tmps.getD 7 undef :: a.tmps.getD 8 undef :: a.tmps.getD 9 undef :: a.tmps.getD 10 undef :: a.tmps.getD 11 undef :: a.tmps.getD 12 undef :: a.tmps.getD 13 undef :: a.tmps.getD 14 undef :: a.tmps.getD 15 undef :: a.tmps.getD 16 undef :: a.tmps.getD 17 undef :: a.tmps.getD 18 undef :: a.tmps.getD 19 undef :: a.tmps.getD 20 undef :: a.tmps.getD 21 undef :: a.tmps.getD 22 undef :: a.tmps.getD 23 undef :: a.tmps.getD 24 undef :: a.tmps.getD 25 undef :: a.tmps.getD 26 undef :: a.tmps.getD 27 undef :: a.tmps.getD 28 undef :: a.tmps.getD 29 undef :: a.tmps.getD 30 undef :: a.tmps.getD 31 undef :: a.tmps.getD 32 undef :: a.tmps.getD 33 undef :: a.tmps.getD 34 undef :: a.tmps.getD 35 undef :: a.tmps.getD 36 undef :: a.tmps.getD 37 undef :: a.tmps.getD 38 undef :: a.tmps.getD 39 undef :: a.tmps.getD 40 undef :: a.tmps.getD 41 undef :: a.tmps.getD 42 undef :: a.tmps.getD 43 undef :: a.tmps.getD 44 undef :: a.tmps.getD 45 undef :: a.tmps.getD 46 undef :: a.tmps.getD 47 undef :: a.tmps.getD 48 undef :: a.tmps.getD 49 undef :: a.tmps.getD 50 undef :: a.tmps.getD 51 undef :: a.tmps.getD 52 undef :: a.tmps.getD 53 undef :: a.tmps.getD 54 undef :: a.tmps.getD 55 undef :: a.tmps.getD 56 undef :: a.tmps.getD 57 undef :: a.tmps.getD 58 undef :: a.tmps.getD 59 undef :: a.tmps.getD 60 undef :: a.tmps.getD 61 undef :: a.tmps.getD 62 undef :: a.tmps.getD 63 undef :: a.tmps.getD 64 undef :: a.tmps.getD 65 undef :: a.tmps.getD 66 undef :: a.tmps.getD 67 undef :: a.tmps.getD 68 undef :: a.tmps.getD 69 undef :: a.tmps.getD 70 undef :: a.tmps.getD 71 undef :: a.tmps.getD 72 undef :: a.tmps.getD 73 undef :: a.tmps.getD 74 undef :: a.tmps.getD 75 undef :: a.tmps.getD 76 undef :: a.tmps.getD 77 undef :: a.tmps.getD 78 undef :: a.tmps.getD 79 undef :: a.tmps.getD 80 undef :: a.tmps.getD 81 undef :: a.tmps.getD 82 undef :: a.tmps.getD 83 undef :: a.tmps.getD 84 undef :: a.tmps.getD 85 undef :: a.tmps.getD 86 undef :: a.tmps.getD 87 undef :: a.tmps.getD 88 undef :: a.tmps.getD 89 undef :: a.tmps.getD 90 undef :: a.tmps.getD 91 undef :: a.tmps.getD 92 undef :: a.tmps.getD 93 undef :: []), []⟩) (hv : looseE t = 30) (hb : Below w.heap.size w wr) : LooseBad t w a wr := ⟨fun i => a.tmps.getD i undef, h, hv, hb⟩

set_option maxRecDepth 100000 in
set_option maxHeartbeats 4000000 in
theorem loose_any (t : TV) (w : World) (h : TreeAt w t) : Calls Try.prog 38 #[t.val] w fun e w' => e = .returned (.int .i64 (looseE t)) ∧ Below w.heap.size w w' := by
  have hns := h.ns
  have hnl := h.nl
  have hfs := h.fs
  have hfl := h.fl
  have hnm := h.nm
  have hfm := h.fm
  obtain ⟨nodes, files, NA, nn, nc, FA, fn, fc⟩ := t
  simp only at hns hnl hfs hfl hnm hfm
  replace h := Lib.hid h
  replace hns := Lib.hid hns
  replace hnl := Lib.hid hnl
  replace hfs := Lib.hid hfs
  replace hfl := Lib.hid hfl
  have hmm := @run_makeMap Try.prog
  unfold TV.val
  go_enter Try.func38, Try.ntmps38
  go_wp2
  refine wp_scope_J 0 (LooseBad ⟨nodes, files, NA, nn, nc, FA, fn, fc⟩ w) (fun _ _ => 0) (by rfl) ?_ fun pass => ?_
  · rintro a wr ⟨u, rfl, hv, hb⟩
    replace hv := Lib.hid hv
    go_wp2
    exact And.intro rfl ⟨_, (results_tmp rfl _ _ _).trans rfl, by rw [hv.out]; rfl, hb⟩
  · replace pass := Lib.hid pass
    obtain ⟨T, hT⟩ : ∃ T : TV, T = ⟨nodes, files, NA, nn, nc, FA, fn, fc⟩ := ⟨_, rfl⟩
    have hTv : Value.agg #[.slice NA nn nc, .slice FA fn fc] = T.val := by rw [hT]; rfl
    cases hbd : boundB ⟨nodes, files, NA, nn, nc, FA, fn, fc⟩ with
    | true =>
      have hfin : looseE ⟨nodes, files, NA, nn, nc, FA, fn, fc⟩ = 31 := by simp [looseE, hbd]
      replace hfin := Lib.hid hfin
      replace hbd := Lib.hid hbd
      clear hT hTv
      go_wp2_with (go_at_call 45; refine (bound_any ⟨nodes, files, NA, nn, nc, FA, fn, fc⟩ _ (h.out.keep ((Below.refl _ _).alloc (Nat.le_refl _) _))).mono ?_; rintro e w1 ⟨rfl, hb1⟩; rw [hbd.out])
      exact And.intro rfl ⟨_, (results_tmp rfl _ _ _).trans rfl, by rw [hfin.out]; rfl, ((Below.refl _ _).alloc (Nat.le_refl _) _).trans (hb1.mono (by simp))⟩
    | false =>
      obtain ⟨hn256, hf256⟩ : nn ≤ 256 ∧ fn ≤ 256 := by
        have h := hbd
        unfold boundB at h
        simp only [Bool.or_eq_false_iff, decide_eq_false_iff_not] at h
        omega
      have hE : ∀ r, looseRun nodes k0 0 ByteArray.empty = r → looseE ⟨nodes, files, NA, nn, nc, FA, fn, fc⟩ = match r with
        | some f => if f = fn ∧ (files.all fun x => okMode x.mode) = true then 0 else 30
        | none => 30 := by rintro r rfl; simp [looseE, hbd]
      replace hE := Lib.hid hE
      replace hbd := Lib.hid hbd
      clear hT hTv
      go_upto_region 6 with (first | (go_at_call 45; refine (bound_any ⟨nodes, files, NA, nn, nc, FA, fn, fc⟩ _ (h.out.keep ((Below.refl _ _).alloc (Nat.le_refl _) _))).mono ?_; rintro e w1 ⟨rfl, hb1⟩; rw [hbd.out]) | (refine wpList_km_insert (b := w1.heap.size) (n := 0) (f := fun _ => 0) (s := ⟨#[]⟩) (v := 1) rfl (.tmp 12) _ _ rfl rfl (KM.new w1) rfl (Nat.zero_le _) (by unfold maxLen; omega) rfl (by decide) ?_; intro w2 hK2 hg2))
      have hs1 := hb1.size
      simp only [World.size_alloc] at hs1
      have hbm : w.heap.size < w1.heap.size := by omega
      obtain ⟨bm, hbme⟩ : ∃ bm, bm = w1.heap.size := ⟨_, rfl⟩
      have hB2 : Blk w2 w.heap.size 25 #[.slice NA nn nc, .slice FA fn fc] := by
        have h1 : Blk w1 w.heap.size 25 #[.slice NA nn nc, .slice FA fn fc] := (Blk.new w _ _).below hb1 (by simp)
        exact (h1.alloc _).grown hg2 (by intro e; injection e with e; omega)
      have hb2 : Below w.heap.size w w2 := (((Below.refl _ _).alloc (Nat.le_refl _) _).trans (hb1.mono (by simp))).trans (((Below.refl _ _).alloc (by omega) _).trans (below_grown hg2 (by simp; omega) (fun g e => by injection e with e; omega)))
      have hN0 : NodesAt ⟨nodes, files, NA, nn, nc, FA, fn, fc⟩ w w2 w1.heap.size (.int .i64 0) (.string ⟨#[]⟩) 0 :=
        ⟨1, k0, 0, ByteArray.empty, rfl, Int.le_refl _, Int.le_refl _, rfl, rfl, Nat.le_refl _, hbm, hK2, hB2, hb2⟩
      rw [← hbme] at hN0 ⊢
      clear hK2 hg2 hs1 hbm hbme hb1
      obtain ⟨bx0, bx1⟩ := And.intro (hB2.cell 0) (hB2.cell 1)
      go_wp2
      clear bx0 bx1
      go_loopw [4, 5, 17] (fun v4 v5 i wr => ∃ k : Nat, k ≤ nn ∧ i = .int .i64 k ∧ NodesAt ⟨nodes, files, NA, nn, nc, FA, fn, fc⟩ w wr bm v4 v5 k) (fun _ _ i _ => nn - (intOf i).toNat)
      case atStart => exact ⟨0, Nat.zero_le _, rfl, hN0⟩
      case round =>
        clear hN0 hB2 hb2
        obtain ⟨k, hk, rfl, m, f, fls, last, hR, hf0, hf1, rfl, rfl, hm, hbm, hK, hB, hb⟩ := hrel
        simp only at hR hB
        replace hR := Lib.hid hR
        by_cases hlt : k < nn
        · have hki : (k : Int) < nn := by omega
          obtain ⟨xb, xo, x, rfl, hxb, hx, hc⟩ := (hns.out.keep (Nat.le_refl _) hb.block).get Node.len hnl.out hlt
          have c0 := hc 0 _ rfl
          have c1 := hc 1 _ rfl
          have c2 := hc 2 _ rfl
          simp only [Nat.add_zero] at c0 c1 c2
          clear hc
          have hd := drop_at' hx
          have hxs : x.path.size ≤ 9223372036854775807 := x.hp
          replace hd := Lib.hid hd
          clear hx
          have hpar : (parentB x.path).size ≤ maxLen := by have := parentB_size x.path; unfold maxLen; omega
          have hbmr := hK.lt
          go_upto_region 9 with (fail)
          obtain ⟨W1, hW1⟩ : ∃ W1, W1 = wr.alloc (.cells #[.string x.path, .int .i64 x.file, .int .i64 x.mode] 46) := ⟨_, rfl⟩
          replace hK : KM W1 bm m f := by rw [hW1]; exact hK.kept (World.grownBy_alloc _ _ none) (by simp)
          replace hB := hB.alloc (.cells #[.string x.path, .int .i64 x.file, .int .i64 x.mode] 46)
          have hN := Blk.new wr 46 #[.string x.path, .int .i64 x.file, .int .i64 x.mode]
          have hbs := hb.size
          replace hb := hb.alloc hb.size (.cells #[.string x.path, .int .i64 x.file, .int .i64 x.mode] 46)
          rw [← hW1] at hB hN hb ⊢
          obtain ⟨nb, hnb⟩ : ∃ nb, nb = wr.heap.size := ⟨_, rfl⟩
          rw [← hnb] at hN hbmr hbs ⊢
          clear hW1 hnb c0 c1 c2
          have n0 := hN.cell 0
          have n1 := hN.cell 1
          have n2 := hN.cell 2
          cases a1 : validL x.path.data.toList with
          | false =>
            have HV : looseE ⟨nodes, files, some ⟨xb, xo, none⟩, nn, nc, FA, fn, fc⟩ = 30 := by rw [hE.out _ (hR.out.trans (by rw [hd.out, looseRun, if_pos (by simp [badNode, a1])]))]
            replace HV := Lib.hid HV
            replace a1 := Lib.hid a1
            go_wp2_with (first | (go_at_call 46; refine (valid_any x.path _ hxs).mono ?_; rintro e wq ⟨rfl, hbq⟩; rw [a1.out]; replace hK := hK.kept (grown_below (row := none) hbq (Nat.le_refl _)) (by simp); replace hB := hB.below hbq hB.lt; replace hN := hN.below hbq hN.lt; replace hb := hb.trans (hbq.mono hb.size); have n0 := hN.cell 0; have n1 := hN.cell 1; have n2 := hN.cell 2) | (go_at_call 47; refine (parent_any x.path _ hxs).mono ?_; rintro e wp ⟨rfl, hbq⟩; replace hK := hK.kept (grown_below (row := none) hbq (Nat.le_refl _)) (by simp); replace hB := hB.below hbq hB.lt; replace hN := hN.below hbq hN.lt; replace hb := hb.trans (hbq.mono hb.size); have n0 := hN.cell 0; have n1 := hN.cell 1; have n2 := hN.cell 2; have hlook := hK.look (s := parentB x.path) hpar))
            all_goals
              refine wp_goto ?_
              exact And.intro rfl (LooseBad.mk rfl HV.out hb)
          | true =>
            cases a2 : leS x.path last with
            | true =>
              have HV : looseE ⟨nodes, files, some ⟨xb, xo, none⟩, nn, nc, FA, fn, fc⟩ = 30 := by rw [hE.out _ (hR.out.trans (by rw [hd.out, looseRun, if_pos (by simp [badNode, a1, a2])]))]
              replace HV := Lib.hid HV
              replace a1 := Lib.hid a1
              have a2' : (Op.bytesLess x.path.toList last.toList || x.path.toList == last.toList) = true := a2
              go_wp2_with (first | (go_at_call 46; refine (valid_any x.path _ hxs).mono ?_; rintro e wq ⟨rfl, hbq⟩; rw [a1.out]; replace hK := hK.kept (grown_below (row := none) hbq (Nat.le_refl _)) (by simp); replace hB := hB.below hbq hB.lt; replace hN := hN.below hbq hN.lt; replace hb := hb.trans (hbq.mono hb.size); have n0 := hN.cell 0; have n1 := hN.cell 1; have n2 := hN.cell 2) | (go_at_call 47; refine (parent_any x.path _ hxs).mono ?_; rintro e wp ⟨rfl, hbq⟩; replace hK := hK.kept (grown_below (row := none) hbq (Nat.le_refl _)) (by simp); replace hB := hB.below hbq hB.lt; replace hN := hN.below hbq hN.lt; replace hb := hb.trans (hbq.mono hb.size); have n0 := hN.cell 0; have n1 := hN.cell 1; have n2 := hN.cell 2; have hlook := hK.look (s := parentB x.path) hpar))
              all_goals
                refine wp_goto ?_
                exact And.intro rfl (LooseBad.mk rfl HV.out hb)
            | false =>
              have a2' : (Op.bytesLess x.path.toList last.toList || x.path.toList == last.toList) = false := a2
              cases a3 : (f (parentB x.path).data.toList != 1) with
              | true =>
                have HV : looseE ⟨nodes, files, some ⟨xb, xo, none⟩, nn, nc, FA, fn, fc⟩ = 30 := by rw [hE.out _ (hR.out.trans (by rw [hd.out, looseRun, if_pos (by simp [badNode, a1, a2, a3])]))]
                replace HV := Lib.hid HV
                replace a1 := Lib.hid a1
                go_wp2_with (first | (go_at_call 46; refine (valid_any x.path _ hxs).mono ?_; rintro e wq ⟨rfl, hbq⟩; rw [a1.out]; replace hK := hK.kept (grown_below (row := none) hbq (Nat.le_refl _)) (by simp); replace hB := hB.below hbq hB.lt; replace hN := hN.below hbq hN.lt; replace hb := hb.trans (hbq.mono hb.size); have n0 := hN.cell 0; have n1 := hN.cell 1; have n2 := hN.cell 2) | (go_at_call 47; refine (parent_any x.path _ hxs).mono ?_; rintro e wp ⟨rfl, hbq⟩; replace hK := hK.kept (grown_below (row := none) hbq (Nat.le_refl _)) (by simp); replace hB := hB.below hbq hB.lt; replace hN := hN.below hbq hN.lt; replace hb := hb.trans (hbq.mono hb.size); have n0 := hN.cell 0; have n1 := hN.cell 1; have n2 := hN.cell 2; have hlook := hK.look (s := parentB x.path) hpar))
                all_goals
                  refine wp_goto ?_
                  exact And.intro rfl (LooseBad.mk rfl HV.out hb)
              | false =>
                cases a4 : decide (x.file < -1) with
                | true =>
                  have HV : looseE ⟨nodes, files, some ⟨xb, xo, none⟩, nn, nc, FA, fn, fc⟩ = 30 := by rw [hE.out _ (hR.out.trans (by rw [hd.out, looseRun, if_pos (by simp [badNode, a1, a2, a3, a4])]))]
                  replace HV := Lib.hid HV
                  replace a1 := Lib.hid a1
                  have a4' : x.file < -1 := of_decide_eq_true a4
                  go_wp2_with (first | (go_at_call 46; refine (valid_any x.path _ hxs).mono ?_; rintro e wq ⟨rfl, hbq⟩; rw [a1.out]; replace hK := hK.kept (grown_below (row := none) hbq (Nat.le_refl _)) (by simp); replace hB := hB.below hbq hB.lt; replace hN := hN.below hbq hN.lt; replace hb := hb.trans (hbq.mono hb.size); have n0 := hN.cell 0; have n1 := hN.cell 1; have n2 := hN.cell 2) | (go_at_call 47; refine (parent_any x.path _ hxs).mono ?_; rintro e wp ⟨rfl, hbq⟩; replace hK := hK.kept (grown_below (row := none) hbq (Nat.le_refl _)) (by simp); replace hB := hB.below hbq hB.lt; replace hN := hN.below hbq hN.lt; replace hb := hb.trans (hbq.mono hb.size); have n0 := hN.cell 0; have n1 := hN.cell 1; have n2 := hN.cell 2; have hlook := hK.look (s := parentB x.path) hpar))
                  all_goals
                    refine wp_goto ?_
                    exact And.intro rfl (LooseBad.mk rfl HV.out hb)
                | false =>
                  have a4' : ¬ x.file < -1 := of_decide_eq_false a4
                  cases a5 : decide (fls < x.file) with
                  | true =>
                    have HV : looseE ⟨nodes, files, some ⟨xb, xo, none⟩, nn, nc, FA, fn, fc⟩ = 30 := by rw [hE.out _ (hR.out.trans (by rw [hd.out, looseRun, if_pos (by simp [badNode, a1, a2, a3, a4, a5])]))]
                    replace HV := Lib.hid HV
                    replace a1 := Lib.hid a1
                    have a5' : fls < x.file := of_decide_eq_true a5
                    go_wp2_with (first | (go_at_call 46; refine (valid_any x.path _ hxs).mono ?_; rintro e wq ⟨rfl, hbq⟩; rw [a1.out]; replace hK := hK.kept (grown_below (row := none) hbq (Nat.le_refl _)) (by simp); replace hB := hB.below hbq hB.lt; replace hN := hN.below hbq hN.lt; replace hb := hb.trans (hbq.mono hb.size); have n0 := hN.cell 0; have n1 := hN.cell 1; have n2 := hN.cell 2) | (go_at_call 47; refine (parent_any x.path _ hxs).mono ?_; rintro e wp ⟨rfl, hbq⟩; replace hK := hK.kept (grown_below (row := none) hbq (Nat.le_refl _)) (by simp); replace hB := hB.below hbq hB.lt; replace hN := hN.below hbq hN.lt; replace hb := hb.trans (hbq.mono hb.size); have n0 := hN.cell 0; have n1 := hN.cell 1; have n2 := hN.cell 2; have hlook := hK.look (s := parentB x.path) hpar))
                    all_goals
                      refine wp_goto ?_
                      exact And.intro rfl (LooseBad.mk rfl HV.out hb)
                  | false =>
                    have a5' : ¬ fls < x.file := of_decide_eq_false a5
                    have hgood : badNode x f fls last = false := by simp [badNode, a1, a2, a3, a4, a5]
                    replace hgood := Lib.hid hgood
                    replace a1 := Lib.hid a1
                    by_cases a7 : x.file = -1
                    · cases a6 : okMode x.mode with
                      | false =>
                        have HV : looseE ⟨nodes, files, some ⟨xb, xo, none⟩, nn, nc, FA, fn, fc⟩ = 30 := by rw [hE.out _ (hR.out.trans (by rw [hd.out, looseRun, if_neg (by rw [hgood.out]; simp), if_pos a7, if_neg (by rw [a6]; simp)]))]
                        replace HV := Lib.hid HV
                        have a6' : decide (0 ≤ x.mode ∧ x.mode ≤ 511) = false := a6
                        replace a6 := Lib.hid a6'
                        have a7' : (x.file == -1) = true := beq_iff_eq.2 a7
                        replace a7 := Lib.hid a7
                        go_upto_region 10 with (first | (go_at_call 46; refine (valid_any x.path _ hxs).mono ?_; rintro e wq ⟨rfl, hbq⟩; rw [a1.out]; replace hK := hK.kept (grown_below (row := none) hbq (Nat.le_refl _)) (by simp); replace hB := hB.below hbq hB.lt; replace hN := hN.below hbq hN.lt; replace hb := hb.trans (hbq.mono hb.size); have n0 := hN.cell 0; have n1 := hN.cell 1; have n2 := hN.cell 2) | (go_at_call 47; refine (parent_any x.path _ hxs).mono ?_; rintro e wp ⟨rfl, hbq⟩; replace hK := hK.kept (grown_below (row := none) hbq (Nat.le_refl _)) (by simp); replace hB := hB.below hbq hB.lt; replace hN := hN.below hbq hN.lt; replace hb := hb.trans (hbq.mono hb.size); have n0 := hN.cell 0; have n1 := hN.cell 1; have n2 := hN.cell 2; have hlook := hK.look (s := parentB x.path) hpar))
                        go_upto_region 11 with (refine wpList_km_put (b := bm) (s := x.path) (v := 2) rfl (.tmp 50) (.tmp 52) _ rfl rfl hK rfl (by unfold maxLen; omega) (by unfold maxLen; omega) rfl (by decide) ?_; intro wu hKu hgu; replace hK := hKu; clear hKu; replace hB := hB.grown hgu (by intro e; injection e with e; omega); replace hN := hN.grown hgu (by intro e; injection e with e; omega); replace hb := hb.trans (below_grown hgu hb.size (fun g e => by injection e with e; omega)); have n0 := hN.cell 0; have n1 := hN.cell 1; have n2 := hN.cell 2)
                        go_wp2_with (first | (go_at_call 48; refine (mode_any x.mode _).mono ?_; rintro e wq ⟨rfl, hbq⟩; rw [a6.out]; replace hK := hK.kept (grown_below (row := none) hbq (Nat.le_refl _)) (by simp); replace hB := hB.below hbq hB.lt; replace hN := hN.below hbq hN.lt; replace hb := hb.trans (hbq.mono hb.size); have n0 := hN.cell 0; have n1 := hN.cell 1; have n2 := hN.cell 2) | (refine wpList_km_put (b := bm) (s := x.path) (v := 1) rfl (.tmp 59) (.tmp 61) _ rfl rfl hK rfl (by unfold maxLen; omega) (by unfold maxLen; omega) rfl (by decide) ?_; intro wu hKu hgu; replace hK := hKu; clear hKu; replace hB := hB.grown hgu (by intro e; injection e with e; omega); replace hN := hN.grown hgu (by intro e; injection e with e; omega); replace hb := hb.trans (below_grown hgu hb.size (fun g e => by injection e with e; omega)); have n0 := hN.cell 0; have n1 := hN.cell 1; have n2 := hN.cell 2))
                        refine wp_goto ?_
                        exact And.intro rfl (LooseBad.mk rfl HV.out hb)
                      | true =>
                        have hnx : looseRun nodes k0 0 ByteArray.empty = looseRun (nodes.drop (k + 1)) (fun k => if k = x.path.data.toList then 1 else if k = x.path.data.toList then 2 else f k) fls x.path := hR.out.trans (by rw [hd.out, looseRun, if_neg (by rw [hgood.out]; simp), if_pos a7, if_pos a6])
                        replace hnx := Lib.hid hnx
                        have a6' : decide (0 ≤ x.mode ∧ x.mode ≤ 511) = true := a6
                        replace a6 := Lib.hid a6'
                        have a7' : (x.file == -1) = true := beq_iff_eq.2 a7
                        have a8 : (x.file == fls) = false := beq_eq_false_iff_ne.2 (by omega)
                        replace a7 := Lib.hid a7
                        go_upto_region 10 with (first | (go_at_call 46; refine (valid_any x.path _ hxs).mono ?_; rintro e wq ⟨rfl, hbq⟩; rw [a1.out]; replace hK := hK.kept (grown_below (row := none) hbq (Nat.le_refl _)) (by simp); replace hB := hB.below hbq hB.lt; replace hN := hN.below hbq hN.lt; replace hb := hb.trans (hbq.mono hb.size); have n0 := hN.cell 0; have n1 := hN.cell 1; have n2 := hN.cell 2) | (go_at_call 47; refine (parent_any x.path _ hxs).mono ?_; rintro e wp ⟨rfl, hbq⟩; replace hK := hK.kept (grown_below (row := none) hbq (Nat.le_refl _)) (by simp); replace hB := hB.below hbq hB.lt; replace hN := hN.below hbq hN.lt; replace hb := hb.trans (hbq.mono hb.size); have n0 := hN.cell 0; have n1 := hN.cell 1; have n2 := hN.cell 2; have hlook := hK.look (s := parentB x.path) hpar))
                        go_upto_region 11 with (refine wpList_km_put (b := bm) (s := x.path) (v := 2) rfl (.tmp 50) (.tmp 52) _ rfl rfl hK rfl (by unfold maxLen; omega) (by unfold maxLen; omega) rfl (by decide) ?_; intro wu hKu hgu; replace hK := hKu; clear hKu; replace hB := hB.grown hgu (by intro e; injection e with e; omega); replace hN := hN.grown hgu (by intro e; injection e with e; omega); replace hb := hb.trans (below_grown hgu hb.size (fun g e => by injection e with e; omega)); have n0 := hN.cell 0; have n1 := hN.cell 1; have n2 := hN.cell 2)
                        go_wp2_with (first | (go_at_call 48; refine (mode_any x.mode _).mono ?_; rintro e wq ⟨rfl, hbq⟩; rw [a6.out]; replace hK := hK.kept (grown_below (row := none) hbq (Nat.le_refl _)) (by simp); replace hB := hB.below hbq hB.lt; replace hN := hN.below hbq hN.lt; replace hb := hb.trans (hbq.mono hb.size); have n0 := hN.cell 0; have n1 := hN.cell 1; have n2 := hN.cell 2) | (refine wpList_km_put (b := bm) (s := x.path) (v := 1) rfl (.tmp 59) (.tmp 61) _ rfl rfl hK rfl (by unfold maxLen; omega) (by unfold maxLen; omega) rfl (by decide) ?_; intro wu hKu hgu; replace hK := hKu; clear hKu; replace hB := hB.grown hgu (by intro e; injection e with e; omega); replace hN := hN.grown hgu (by intro e; injection e with e; omega); replace hb := hb.trans (below_grown hgu hb.size (fun g e => by injection e with e; omega)); have n0 := hN.cell 0; have n1 := hN.cell 1; have n2 := hN.cell 2))
                        go_roundw
                        case rel => exact ⟨k + 1, by omega, by go_num, m + 2, _, fls, x.path, hnx.out, by omega, by omega, by go_num, rfl, by omega, by omega, hK, hB, hb⟩
                        case measure => simp [intOf]; omega
                    · have a7' : (x.file == -1) = false := beq_eq_false_iff_ne.2 a7
                      by_cases a9 : x.mode = 0
                      · have a9' : (x.mode != 0) = false := by simp [a9]
                        by_cases a10 : x.file = fls
                        · have a10' : (x.file == fls) = true := beq_iff_eq.2 a10
                          have hnx : looseRun nodes k0 0 ByteArray.empty = looseRun (nodes.drop (k + 1)) (fun k => if k = x.path.data.toList then 2 else f k) (fls + 1) x.path := hR.out.trans (by rw [hd.out, looseRun, if_neg (by rw [hgood.out]; simp), if_neg a7, if_pos a9, if_pos a10])
                          replace hnx := Lib.hid hnx
                          have e10 : x.file + 1 = fls + 1 := by omega
                          replace e10 := Lib.hid e10
                          replace a7 := Lib.hid a7
                          replace a9 := Lib.hid a9
                          replace a10 := Lib.hid a10
                          go_upto_region 10 with (first | (go_at_call 46; refine (valid_any x.path _ hxs).mono ?_; rintro e wq ⟨rfl, hbq⟩; rw [a1.out]; replace hK := hK.kept (grown_below (row := none) hbq (Nat.le_refl _)) (by simp); replace hB := hB.below hbq hB.lt; replace hN := hN.below hbq hN.lt; replace hb := hb.trans (hbq.mono hb.size); have n0 := hN.cell 0; have n1 := hN.cell 1; have n2 := hN.cell 2) | (go_at_call 47; refine (parent_any x.path _ hxs).mono ?_; rintro e wp ⟨rfl, hbq⟩; replace hK := hK.kept (grown_below (row := none) hbq (Nat.le_refl _)) (by simp); replace hB := hB.below hbq hB.lt; replace hN := hN.below hbq hN.lt; replace hb := hb.trans (hbq.mono hb.size); have n0 := hN.cell 0; have n1 := hN.cell 1; have n2 := hN.cell 2; have hlook := hK.look (s := parentB x.path) hpar))
                          go_upto_region 11 with (refine wpList_km_put (b := bm) (s := x.path) (v := 2) rfl (.tmp 50) (.tmp 52) _ rfl rfl hK rfl (by unfold maxLen; omega) (by unfold maxLen; omega) rfl (by decide) ?_; intro wu hKu hgu; replace hK := hKu; clear hKu; replace hB := hB.grown hgu (by intro e; injection e with e; omega); replace hN := hN.grown hgu (by intro e; injection e with e; omega); replace hb := hb.trans (below_grown hgu hb.size (fun g e => by injection e with e; omega)); have n0 := hN.cell 0; have n1 := hN.cell 1; have n2 := hN.cell 2)
                          go_wp2
                          go_roundw
                          case rel => exact ⟨k + 1, by omega, by go_num, m + 1, _, (fls + 1), x.path, hnx.out, by omega, by omega, by go_num, rfl, by omega, by omega, hK, hB, hb⟩
                          case measure => simp [intOf]; omega
                        · have a10' : (x.file == fls) = false := beq_eq_false_iff_ne.2 a10
                          have hnx : looseRun nodes k0 0 ByteArray.empty = looseRun (nodes.drop (k + 1)) (fun k => if k = x.path.data.toList then 2 else f k) fls x.path := hR.out.trans (by rw [hd.out, looseRun, if_neg (by rw [hgood.out]; simp), if_neg a7, if_pos a9, if_neg a10])
                          replace hnx := Lib.hid hnx
                          replace a7 := Lib.hid a7
                          replace a9 := Lib.hid a9
                          replace a10 := Lib.hid a10
                          go_upto_region 10 with (first | (go_at_call 46; refine (valid_any x.path _ hxs).mono ?_; rintro e wq ⟨rfl, hbq⟩; rw [a1.out]; replace hK := hK.kept (grown_below (row := none) hbq (Nat.le_refl _)) (by simp); replace hB := hB.below hbq hB.lt; replace hN := hN.below hbq hN.lt; replace hb := hb.trans (hbq.mono hb.size); have n0 := hN.cell 0; have n1 := hN.cell 1; have n2 := hN.cell 2) | (go_at_call 47; refine (parent_any x.path _ hxs).mono ?_; rintro e wp ⟨rfl, hbq⟩; replace hK := hK.kept (grown_below (row := none) hbq (Nat.le_refl _)) (by simp); replace hB := hB.below hbq hB.lt; replace hN := hN.below hbq hN.lt; replace hb := hb.trans (hbq.mono hb.size); have n0 := hN.cell 0; have n1 := hN.cell 1; have n2 := hN.cell 2; have hlook := hK.look (s := parentB x.path) hpar))
                          go_upto_region 11 with (refine wpList_km_put (b := bm) (s := x.path) (v := 2) rfl (.tmp 50) (.tmp 52) _ rfl rfl hK rfl (by unfold maxLen; omega) (by unfold maxLen; omega) rfl (by decide) ?_; intro wu hKu hgu; replace hK := hKu; clear hKu; replace hB := hB.grown hgu (by intro e; injection e with e; omega); replace hN := hN.grown hgu (by intro e; injection e with e; omega); replace hb := hb.trans (below_grown hgu hb.size (fun g e => by injection e with e; omega)); have n0 := hN.cell 0; have n1 := hN.cell 1; have n2 := hN.cell 2)
                          go_wp2
                          go_roundw
                          case rel => exact ⟨k + 1, by omega, by go_num, m + 1, _, fls, x.path, hnx.out, by omega, by omega, by go_num, rfl, by omega, by omega, hK, hB, hb⟩
                          case measure => simp [intOf]; omega
                      · have a9' : (x.mode != 0) = true := by simp [a9]
                        have HV : looseE ⟨nodes, files, some ⟨xb, xo, none⟩, nn, nc, FA, fn, fc⟩ = 30 := by rw [hE.out _ (hR.out.trans (by rw [hd.out, looseRun, if_neg (by rw [hgood.out]; simp), if_neg a7, if_neg a9]))]
                        replace HV := Lib.hid HV
                        replace a7 := Lib.hid a7
                        replace a9 := Lib.hid a9
                        go_upto_region 10 with (first | (go_at_call 46; refine (valid_any x.path _ hxs).mono ?_; rintro e wq ⟨rfl, hbq⟩; rw [a1.out]; replace hK := hK.kept (grown_below (row := none) hbq (Nat.le_refl _)) (by simp); replace hB := hB.below hbq hB.lt; replace hN := hN.below hbq hN.lt; replace hb := hb.trans (hbq.mono hb.size); have n0 := hN.cell 0; have n1 := hN.cell 1; have n2 := hN.cell 2) | (go_at_call 47; refine (parent_any x.path _ hxs).mono ?_; rintro e wp ⟨rfl, hbq⟩; replace hK := hK.kept (grown_below (row := none) hbq (Nat.le_refl _)) (by simp); replace hB := hB.below hbq hB.lt; replace hN := hN.below hbq hN.lt; replace hb := hb.trans (hbq.mono hb.size); have n0 := hN.cell 0; have n1 := hN.cell 1; have n2 := hN.cell 2; have hlook := hK.look (s := parentB x.path) hpar))
                        go_upto_region 11 with (refine wpList_km_put (b := bm) (s := x.path) (v := 2) rfl (.tmp 50) (.tmp 52) _ rfl rfl hK rfl (by unfold maxLen; omega) (by unfold maxLen; omega) rfl (by decide) ?_; intro wu hKu hgu; replace hK := hKu; clear hKu; replace hB := hB.grown hgu (by intro e; injection e with e; omega); replace hN := hN.grown hgu (by intro e; injection e with e; omega); replace hb := hb.trans (below_grown hgu hb.size (fun g e => by injection e with e; omega)); have n0 := hN.cell 0; have n1 := hN.cell 1; have n2 := hN.cell 2)
                        go_wp2
                        refine wp_goto ?_
                        exact And.intro rfl (LooseBad.mk rfl HV.out hb)
        · obtain rfl : k = nn := by omega
          have hR2 := hR.out
          rw [List.drop_of_length_le (by rw [hnl.out]; exact Nat.le_refl _)] at hR2
          have hE2 := hE.out _ hR2
          simp only [looseRun] at hE2
          clear hR2 hK
          have b0 := hB.cell 0
          have b1 := hB.cell 1
          by_cases hff : fls = fn
          · have hff' : (fls != (fn : Int)) = false := by simp [hff]
            have hE3 : looseE ⟨nodes, files, NA, k, nc, FA, fn, fc⟩ = if (files.all fun x => okMode x.mode) = true then 0 else 30 := by rw [hE2]; simp [hff]
            replace hE3 := Lib.hid hE3
            replace hff := Lib.hid hff
            clear hE2
            go_wp2
            go_loopw [85] (fun i wx => ∃ j : Nat, j ≤ fn ∧ i = .int .i64 j ∧ (files.all fun x => okMode x.mode) = ((files.drop j).all fun x => okMode x.mode) ∧ Below w.heap.size w wx) (fun i _ => fn - (intOf i).toNat)
            case atStart => exact ⟨0, Nat.zero_le _, rfl, rfl, hb⟩
            case round =>
              obtain ⟨j, hj, rfl, hall, hbx⟩ := hrel
              replace hall := Lib.hid hall
              clear hb hB b0 b1
              by_cases hlt2 : j < fn
              · have hji : (j : Int) < fn := by omega
                obtain ⟨yb, yo, y, rfl, hyb, hy, hc⟩ := (hfs.out.keep (Nat.le_refl _) hbx.block).get FC.len hfl.out hlt2
                have c0 := hc 0 _ rfl
                have c1 := hc 1 _ rfl
                simp only [Nat.add_zero] at c0 c1
                clear hc
                have hd := drop_at' hy
                replace hd := Lib.hid hd
                clear hy
                have hba := hbx.alloc hbx.size (.cells #[.int .i64 y.mode, .slice y.A y.n y.c] 49)
                cases a6 : okMode y.mode with
                | false =>
                  have HV : looseE ⟨nodes, files, NA, k, nc, some ⟨yb, yo, none⟩, fn, fc⟩ = 30 := by rw [hE3.out, hall.out, hd.out, List.all_cons, a6]; simp
                  replace HV := Lib.hid HV
                  have a6' : decide (0 ≤ y.mode ∧ y.mode ≤ 511) = false := a6
                  replace a6 := Lib.hid a6'
                  clear a6'
                  go_wp2_with (go_at_call 48; refine (mode_any y.mode _).mono ?_; rintro e wq ⟨rfl, hbq⟩; rw [a6.out]; replace hba := hba.trans (hbq.mono hba.size))
                  refine wp_goto ?_
                  exact And.intro rfl (LooseBad.mk rfl HV.out hba)
                | true =>
                  have hnx : (files.all fun x => okMode x.mode) = ((files.drop (j + 1)).all fun x => okMode x.mode) := by rw [hall.out, hd.out, List.all_cons, a6]; rfl
                  replace hnx := Lib.hid hnx
                  have a6' : decide (0 ≤ y.mode ∧ y.mode ≤ 511) = true := a6
                  replace a6 := Lib.hid a6'
                  clear a6'
                  go_wp2_with (go_at_call 48; refine (mode_any y.mode _).mono ?_; rintro e wq ⟨rfl, hbq⟩; rw [a6.out]; replace hba := hba.trans (hbq.mono hba.size))
                  go_roundw
                  case rel => exact ⟨j + 1, by omega, by go_num, hnx.out, hba⟩
                  case measure => simp [intOf]; omega
              · obtain rfl : j = fn := by omega
                have HV : looseE ⟨nodes, files, NA, k, nc, FA, j, fc⟩ = 0 := by rw [hE3.out, hall.out, List.drop_of_length_le (by rw [hfl.out]; exact Nat.le_refl _)]; simp
                replace HV := Lib.hid HV
                go_wp2
                exact And.intro rfl ⟨_, (results_tmp rfl _ _ _).trans rfl, by rw [HV.out]; rfl, hbx⟩
          · have hff' : (fls != (fn : Int)) = true := by simp [hff]
            have HV : looseE ⟨nodes, files, NA, k, nc, FA, fn, fc⟩ = 30 := by rw [hE2, if_neg (by intro h; exact hff h.1)]
            replace HV := Lib.hid HV
            clear hE2
            go_wp2
            refine wp_goto ?_
            exact And.intro rfl (LooseBad.mk rfl HV.out hb)
end Go.Proofs.Ytanaccoelifcpaa
