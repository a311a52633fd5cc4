/- shuntref18.Run: it computes peepF too. -/
import Derived.Test.YtbpgakghdpflnaaAppend
import Derived.Test.YtbpgakghdpflnaaAlive
import Derived.Test.YtbpgakghdpflnaaRefWalk
namespace Go.Proofs.Ytbpgakghdpflnaa
open Go.RowKit

/-- The list as it stands ahead of each round of the second loop. -/
def RefAt (xs : List Ins) (set : Int) (w wr : World) (v : Value) (m p : Nat) (l : List Ins) : Prop :=
  m = l.length ∧ m ≤ 4096 ∧ p ≤ m ∧ lookC set l p = lookC set (filt set xs) 0 ∧ ∃ A c, v = .slice A m c ∧ wr.ownsRow w.heap.size 26 5 (.slice A m c) m (insL l) ∧ Below w.heap.size w wr

/-- What shuntref18.rule's call comes to, in one form. -/
def RuleSome (z : List Ins) (w : World) (e : Ending) (w' : World) : Prop :=
  ∃ Az, e = .returned (.tuple #[.slice Az z.length z.length, .bool true]) ∧ Sl w' w'.heap.size 5 Az z.length (insL z) ∧ Below w.heap.size w w'
theorem rr_some {f : FuncId} {args : Array Value} {w : World} {r : Option (List Ins)} {z : List Ins} (h : r = some z) (hz : z.length ≤ 1) (hc : Calls Try.prog f args w (RuleRes r w)) : Calls Try.prog f args w (RuleSome z w) := by
  subst h
  refine hc.mono fun e w' ⟨hb, he⟩ => ?_
  match z, hz, he with
  | [], _, he => exact ⟨none, he, Sl.nil _ _ _ _, hb⟩
  | [i], _, ⟨g, he, hg, hh⟩ =>
    refine ⟨_, he, ⟨by simp [insL, Ins.list], fun _ => ⟨g, 0, rfl, (Array.getElem?_eq_some_iff.1 hh).1, fun j v hj => ?_⟩⟩, hb⟩
    have hB : Blk w' g 26 i.cells := hh
    rw [Nat.zero_add, hB.cell j]
    simpa [insL, Ins.list, Ins.cells] using hj
theorem Sl.tail {w : World} {g k m : Nat} {l : List Ins} (hr : RowAt w g 0 (insL l)) (hm : m = l.length) (hg : g < w.heap.size) {A2 : Option Addr} (hA : k < m → A2 = some ⟨g, k * 5, none⟩) : Sl w w.heap.size 5 A2 (m - k) (insL (l.drop k)) := by
  refine ⟨by rw [insL_length, List.length_drop, hm], fun h => ⟨g, k * 5, hA (by omega), hg, ?_⟩⟩
  have := hr.drop (k * 5)
  rwa [insL_drop, Nat.zero_add] at this
theorem ins_mk {w w1 : World} {R L : List Ins} {m : Nat} {A : Option Addr} {c : Nat} {e : Int} (hR : R = L) (hm : m = L.length) (ho : w1.ownsRow w.heap.size 26 5 (.slice A m c) m (insL L)) (hb : Below w.heap.size w w1) :
    InsRes R e w (.returned (.tuple #[.slice A m c, .int .i64 e])) w1 := by
  subst hR hm; exact ⟨A, c, rfl, ho, hb⟩
theorem RefAt.none {xs : List Ins} {set : Int} {w wr w1 : World} {g c3 m p : Nat} {l : List Ins} {x y : Ins} (hm : m = l.length) (hm4 : m ≤ 4096) (hp : p + 1 < m) (hlook : lookC set l p = lookC set (filt set xs) 0)
    (ho : wr.ownsRow w.heap.size 26 5 (.slice (some ⟨g, 0, Option.none⟩) m c3) m (insL l)) (hb : Below w.heap.size w wr) (hx : l[p]? = some x) (hy : l[p + 1]? = some y) (hf : fuse x y set = Option.none) (hb1 : wr.grownBy w1 Option.none) :
    RefAt xs set w w1 (.slice (some ⟨g, 0, Option.none⟩) m c3) m (p + 1) l :=
  ⟨hm, hm4, by omega, by rw [← lookC_none hx hy hf]; exact hlook, _, c3, rfl, own_keep ho fun g' o e => hb1.block g' (by injection e with e; injection e with e; have := (own_lt ho).2.1; omega) (by simp), hb.trans (below_grown hb1 hb.size (fun g e => by cases e))⟩
theorem RefAt.some {xs : List Ins} {set : Int} {w w6 : World} {A6 : Option Addr} {c6 m m6 p : Nat} {l z : List Ins} {x y : Ins} {L : List Value} (hm : m = l.length) (hm4 : m ≤ 4096) (hp : p + 1 < m) (hlook : lookC set l p = lookC set (filt set xs) 0)
    (hx : l[p]? = some x) (hy : l[p + 1]? = some y) (hf : fuse x y set = some z) (ho : w6.ownsRow w.heap.size 26 5 (.slice A6 m6 c6) m6 L) (hL : L = insL (l.take p ++ z ++ l.drop (p + 2))) (hm6 : m6 = p + z.length + (m - (p + 2)))
    (hb : Below w.heap.size w w6) : RefAt xs set w w6 (.slice A6 m6 c6) m6 (p - 1) (l.take p ++ z ++ l.drop (p + 2)) := by
  have hz := fuse_le hf
  subst hL
  exact ⟨by simp; omega, by omega, by omega, by rw [← lookC_some hx hy hf]; exact hlook, _, _, rfl, ho, hb⟩

set_option maxRecDepth 100000 in
set_option maxHeartbeats 4000000 in
theorem ref_run (xs : List Ins) (set : Int) (A : Option Addr) (n c : Nat) (w : World) (hA : Sl w w.heap.size 5 A n (insL xs)) (hn : xs.length = n) (h4 : n ≤ 4095) (hs0 : 0 ≤ set) (hs1 : set ≤ 31) :
    Calls Try.prog 14 #[.slice A n c, .int .i64 set] w (InsRes (peepF set xs) 0 w) := by
  have Hn := Lib.hid hn
  have HA := Lib.hid hA; clear hA
  have hl : ¬ (4096 : Int) < n := by omega
  have hl2 : ¬ (31 : Int) < set := by omega
  have hpe := peep_eq set xs
  have hfl := filt_le set xs
  rw [hn] at hfl
  obtain ⟨fw, hfw⟩ : ∃ b, few set = b := ⟨_, rfl⟩
  have hfw' : (bits BinOp.and IntKind.i64 set 8 != 0) = fw := hfw
  rw [hfw] at hpe
  have hfa : fw = false → filt set xs = xs := fun h => filt_all (by rw [hfw, h]) xs
  replace hfa := Lib.hid hfa
  replace hpe := Lib.hid hpe
  replace hfl := Lib.hid hfl
  replace hfw := Lib.hid hfw
  clear hn
  go_enter Try.func14, Try.ntmps14
  go_upto_if 27 with (at_builtin; refine wpList_append_sl (base := w.heap.size) (A := none) (n := 0) (c := 0) (L := []) (A2 := A) (m := n) (L2 := insL xs) (c2 := c) rfl _ _ _ rfl Try.insT rfl (World.ownsRow_nil _ _ _ _) rfl HA.out (insL_one xs) (by unfold maxLen; omega) (by omega) (Nat.le_refl _) ?_; intro A1 c1 w1 ho1 hg1 hat1)
  simp only [Nat.zero_add, List.nil_append] at ho1 ⊢
  have hb1 : Below w.heap.size w w1 := below_grown hg1 (Nat.le_refl _) (fun g e => by cases e)
  clear hg1 hat1
  go_cut [7] (fun v wx => FiltAt xs set w wx n v)
  case first =>
    cases fw with
    | false =>
      have hF : FiltAt xs set w w1 n (.slice A1 n c1) := ⟨A1, n, c1, rfl, by rw [List.take_of_length_le (by rw [Hn.out]; exact Nat.le_refl _), hfa.out rfl, Hn.out], by rw [List.take_of_length_le (by rw [Hn.out]; exact Nat.le_refl _), hfa.out rfl]; exact ho1, hb1⟩
      replace hF := Lib.hid hF
      clear ho1
      go_wp2
      go_meet
      exact hF.out
    | true =>
      clear ho1
      have hfw2 := hfw.out
      replace hfw2 := Lib.hid hfw2
      go_wp2
      go_loopw [7, 8] (fun v i wr => ∃ k : Nat, k ≤ n ∧ i = .int .i64 k ∧ FiltAt xs set w wr k v) (fun _ i _ => n - (intOf i).toNat)
      case atStart => exact ⟨0, Nat.zero_le _, rfl, none, 0, 0, rfl, rfl, World.ownsRow_nil _ _ _ _, hb1⟩
      case round =>
        obtain ⟨k, hk, rfl, hF⟩ := hrel
        by_cases hlt : k < n
        · have hki : (k : Int) < n := by omega
          have hbw := hF.choose_spec.choose_spec.choose_spec.2.2.2
          obtain ⟨b, o, x, rfl, hbl, hx, x0, x1, x2, x3, x4⟩ := (HA.out.keep hbw.size hbw.block).ins Hn.out hlt
          obtain ⟨A', m, c', rfl, hm, ho, hbw'⟩ := hF
          have hmle : m ≤ 4095 := by have := filt_le set (xs.take k); have := List.length_take_le k xs; omega
          have Hx := Lib.hid hx; clear hx hbw
          have Hm := Lib.hid hm; clear hm
          have hws := hbw'.size
          by_cases h9 : x.op = 9
          · have hks : keepSync set x = false := by simp [keepSync, h9, hfw2.out]
            have H9 := Lib.hid h9; clear h9
            have b9 : (x.op != 9) = false := by simp [H9.out]
            have Hks := Lib.hid hks; clear hks
            go_wp2
            go_roundw
            case rel => exact ⟨k + 1, by omega, by go_num, FiltAt.skip ⟨A', m, c', rfl, Hm.out, ho, hbw'⟩ Hx.out Hks.out (Below.refl _ _)⟩
            case measure => simp [intOf]; omega
          · have b9 : (x.op != 9) = true := by simp [h9]
            have H9 := Lib.hid h9; clear h9
            go_wp2_with (at_builtin; refine wpList_append_one rfl _ _ _ rfl Try.insT rfl ho _ rfl (by simp) rfl (Ins.cells_one x) (by unfold maxLen; omega) (by omega) hws ?_; intro g1 c1 w1 ho1 hg1 hat1)
            go_roundw
            case rel => exact ⟨k + 1, by omega, by go_num, FiltAt.push Hx.out (by simp [keepSync, H9.out]) Hm.out ho1 (hbw'.trans (below_grown hg1 hws (own_blk ho)))⟩
            case measure => simp [intOf]; omega
        · obtain rfl : k = n := by omega
          replace hF := Lib.hid hF
          go_wp2
          go_meet
          exact hF.out
  case rest =>
    obtain ⟨A2, m, c2, rfl, hm, ho, hbw⟩ := hcut
    rw [List.take_of_length_le (by rw [Hn.out]; exact Nat.le_refl _)] at hm ho
    have hm4 : m ≤ 4095 := by have := hfl.out; omega
    have hR : RefAt xs set w wc (.slice A2 m c2) m 0 (filt set xs) := ⟨hm, by omega, Nat.zero_le _, rfl, A2, c2, rfl, ho, hbw⟩
    clear hm ho
    go_wp2
    go_loopw [7, 9] (fun v i wr => ∃ (p m : Nat) (l : List Ins), i = .int .i64 p ∧ RefAt xs set w wr v m p l) (fun v i _ => 2 * (match v with | .slice _ m _ => m | _ => 0) - (intOf i).toNat)
    case atStart => exact ⟨0, m, _, rfl, hR⟩
    case round =>
      obtain ⟨p, m', l, rfl, hR2⟩ := hrel
      clear hR hm4
      obtain ⟨hm, hm4, hpm, hlook, A3, c3, rfl, ho, hbr⟩ := hR2
      have Hm := Lib.hid hm; clear hm
      have Hlook := Lib.hid hlook; clear hlook
      have hws := hbr.size
      by_cases hp : p + 1 < m'
      · have hp' : (p : Int) + 1 < m' := by omega
        have hp2 : (p : Int) < m' := by omega
        obtain ⟨g, rfl⟩ : ∃ g, A3 = some ⟨g, 0, none⟩ := by
          rcases ho.2 with ⟨_, h⟩ | ⟨g, _, _, h, _⟩
          · omega
          · injection h with h; exact ⟨g, h⟩
        obtain ⟨hrow, hbg, hglt, hnc, hcm⟩ := own_row ho
        obtain ⟨x, hx⟩ : ∃ x, l[p]? = some x := ⟨l[p]'(by rw [← Hm.out]; omega), List.getElem?_eq_getElem _⟩
        obtain ⟨y, hy⟩ : ∃ x, l[p + 1]? = some x := ⟨l[p + 1]'(by rw [← Hm.out]; omega), List.getElem?_eq_getElem _⟩
        obtain ⟨x0, x1, x2, x3, x4⟩ := hrow.ins hx
        obtain ⟨y0, y1, y2, y3, y4⟩ := hrow.ins hy
        simp only [Nat.zero_add] at x0 x1 x2 x3 x4 y0 y1 y2 y3 y4
        have Hx := Lib.hid hx; clear hx
        have Hy := Lib.hid hy; clear hy
        clear hrow
        rcases hf : fuse x y set with _ | z
        · have Hf := Lib.hid hf; clear hf
          go_upto_region 16 with (fail)
          refine wp_region_ordB (none) [(0, true), (1, true), (2, true), (3, true), (4, true), (5, true), (6, true), (7, true), (8, true), (9, true), (10, false), (11, true), (12, true), (13, true), (14, true), (15, true)] (by kernel_rfl) (by kernel_rfl) fun hG0 => ?_
          repeat (first
            | (refine ord_skipB rfl (by rfl) ?_; simp only [Act.put, List.setIfInBounds_toArray, List.set_cons_zero, List.set_cons_succ])
            | (refine ord_qE rfl (by rfl) ?_; apply Exists.intro; refine ⟨fun w' hc' => ?_, ?_⟩; (focus (go_simp; (try go_bits); (try simp only [↓IntWalk.iteOmega]); with_reducible rfl)); simp only [Act.put, List.setIfInBounds_toArray, List.set_cons_zero, List.set_cons_succ]))
          refine ord_eB rfl fun K hK => ?_
          go_wp2_with (go_at_call 19; refine (rr_none Hf.out (rule_any x y set _)).mono ?_; rintro e w2 ⟨rfl, hb2⟩)
          have hG1 := grown_trans hG0 (grown_below hb2 (Nat.le_refl _))
          refine hK.out _ _ hG1 ?_
          clear hK K
          repeat (first
            | (refine ord_skipB rfl (by rfl) ?_; simp only [Act.put, List.setIfInBounds_toArray, List.set_cons_zero, List.set_cons_succ])
            | (refine ord_qE rfl (by rfl) ?_; apply Exists.intro; refine ⟨fun w' hc' => ?_, ?_⟩; (focus (go_simp; (try go_bits); (try simp only [↓IntWalk.iteOmega]); with_reducible rfl)); simp only [Act.put, List.setIfInBounds_toArray, List.set_cons_zero, List.set_cons_succ]))
          refine ord_end ?_
          go_wp2
          go_roundw
          case rel => exact ⟨p + 1, m', l, by go_num, RefAt.none Hm.out hm4 hp Hlook.out ho hbr Hx.out Hy.out Hf.out hG1⟩
          case measure => simp [intOf]; omega
        · have hz := fuse_le hf
          have Hf := Lib.hid hf; clear hf
          go_upto_region 16 with (fail)
          refine wp_region_ordB (none) [(0, true), (1, true), (2, true), (3, true), (4, true), (5, true), (6, true), (7, true), (8, true), (9, true), (10, false), (11, true), (12, true), (13, true), (14, true), (15, true)] (by kernel_rfl) (by kernel_rfl) fun hG0 => ?_
          repeat (first
            | (refine ord_skipB rfl (by rfl) ?_; simp only [Act.put, List.setIfInBounds_toArray, List.set_cons_zero, List.set_cons_succ])
            | (refine ord_qE rfl (by rfl) ?_; apply Exists.intro; refine ⟨fun w' hc' => ?_, ?_⟩; (focus (go_simp; (try go_bits); (try simp only [↓IntWalk.iteOmega]); with_reducible rfl)); simp only [Act.put, List.setIfInBounds_toArray, List.set_cons_zero, List.set_cons_succ]))
          refine ord_eB rfl fun K hK => ?_
          go_wp2_with (go_at_call 19; refine (rr_some Hf.out hz (rule_any x y set _)).mono ?_; rintro e w2 ⟨Az, rfl, hSz, hb2⟩)
          have hG1 := grown_trans hG0 (grown_below hb2 (Nat.le_refl _))
          refine hK.out _ _ hG1 ?_
          clear hK K
          repeat (first
            | (refine ord_skipB rfl (by rfl) ?_; simp only [Act.put, List.setIfInBounds_toArray, List.set_cons_zero, List.set_cons_succ])
            | (refine ord_qE rfl (by rfl) ?_; apply Exists.intro; refine ⟨fun w' hc' => ?_, ?_⟩; (focus (go_simp; (try go_bits); (try simp only [↓IntWalk.iteOmega]); with_reducible rfl)); simp only [Act.put, List.setIfInBounds_toArray, List.set_cons_zero, List.set_cons_succ]))
          refine ord_end ?_
          have ho2 := own_keep ho fun g' o e => hG1.block g' (by injection e with e; injection e with e; omega) (by simp)
          have hw2 := hG1.size
          have hb2' : Below w.heap.size w w2 := hbr.trans (below_grown hG1 hws (fun g e => by cases e))
          obtain ⟨hrow2, _, hglt2, _, _⟩ := own_row ho2
          have hT := fun A2 => @Sl.tail w2 g (p + 2) m' l hrow2 Hm.out hglt2 A2
          replace hT := Lib.hid hT
          replace hSz := Lib.hid hSz
          clear hrow2 x0 x1 x2 x3 x4 y0 y1 y2 y3 y4
          have hLz : ∀ u ∈ insL z, u.oneCell' = true := insL_one z
          have hLd : ∀ u ∈ insL (l.drop (p + 2)), u.oneCell' = true := insL_one _
          replace hLz := Lib.hid hLz
          replace hLd := Lib.hid hLd
          replace hb2' := Lib.hid hb2'
          have hpre := own_prefix ho2 (show p ≤ m' by omega)
          obtain ⟨r, hr⟩ : ∃ r, z.length = r := ⟨_, rfl⟩
          rw [hr] at hz hSz ⊢
          replace hr := Lib.hid hr
          have tok1 : True := trivial
          have hwb2 := hb2'.out.size
          by_cases hcap : c3 = p + 2
          · subst hcap
            obtain rfl : m' = p + 2 := by omega
            have hpre4 := hpre
            have hSz4 := hSz
            go_wp2_with (first | (at_builtin; have _t := tok1; refine wpList_append_sl (base := w.heap.size) (A := some ⟨g, 0, none⟩) (n := p) (c := p + 2) (m := r) (A2 := Az) (L2 := insL z) rfl _ _ _ rfl Try.insT rfl hpre4 rfl hSz4.out hLz.out (by unfold maxLen; omega) (by omega) (by omega) ?_; intro A5 c5 w5 ho5 hg5 hat5; clear tok1 _t; have hw5 := hg5.size; have hS5 := Lib.hid (Sl.nil w5 w5.heap.size 5 none); have hwb5 : w.heap.size ≤ w5.heap.size := by omega) | (at_builtin; refine wpList_append_sl (base := w.heap.size) (A := A5) (n := p + r) (c := c5) (m := 0) (A2 := none) (L2 := []) rfl _ _ _ rfl Try.insT rfl ho5 rfl hS5.out (fun u hu => by cases hu) (by unfold maxLen; omega) (by omega) hwb5 ?_; intro A6 c6 w6 ho6 hg6 hat6))
            all_goals
              go_roundw
              case rel =>
                have hl : l.length = p + 2 := Hm.out.symm
                exact ⟨p - 1, p + r, _, by congr 1; omega, RefAt.some Hm.out hm4 hp Hlook.out Hx.out Hy.out Hf.out ho6 (by simp [insL_append, insL_take, List.drop_of_length_le (show l.length ≤ p + 2 by omega)]) (by rw [hr.out]; omega) (hb2'.out.trans ((below_grown hg5 hwb2 (fun g' e => by simp only [blkOf, Option.some.injEq] at e; omega)).trans (below_grown hg6 (Nat.le_trans hwb2 hg5.size) (own_blk ho5))))⟩
              case measure => simp [intOf]; omega
          · go_upto_region 20 with (at_builtin; refine wpList_append_sl (base := w.heap.size) (A := none) (n := 0) (c := 0) (L := []) (m := m' - (p + 2)) (L2 := insL (l.drop (p + 2))) rfl _ _ _ rfl Try.insT rfl (World.ownsRow_nil _ _ _ _) rfl (hT.out _ (fun h => by first | rfl | omega)) hLd.out (by unfold maxLen; omega) (by omega) (by omega) ?_; intro A4 c4 w4 ho4 hg4 hat4)
            have hw4 := hg4.size
            have hpre4 := own_keep hpre fun g' o e => hg4.block g' (by injection e with e; injection e with e; omega) (by simp [blkOf])
            have hSz4 := Lib.hid (hSz.out.keep (Nat.le_refl _) (B' := w2.heap.size) fun k hk => hg4.block k hk (by simp [blkOf]))
            have hA4 : ∀ g', blkOf A4 = some g' → w2.heap.size ≤ g' := fun g' e => by
              rcases hat4 g' e with h | h
              · cases h
              · exact h
            replace hA4 := Lib.hid hA4
            clear hat4
            simp only [Nat.zero_add, List.nil_append] at ho4 ⊢
            go_wp2_with (first | (at_builtin; have _t := tok1; refine wpList_append_sl (base := w.heap.size) (A := some ⟨g, 0, none⟩) (n := p) (c := c3) (m := r) (A2 := Az) (L2 := insL z) rfl _ _ _ rfl Try.insT rfl hpre4 rfl hSz4.out hLz.out (by unfold maxLen; omega) (by omega) (by omega) ?_; intro A5 c5 w5 ho5 hg5 hat5; clear tok1 _t; have hw5 := hg5.size; have hS5 := Lib.hid (Sl.of_own (own_keep ho4 fun g' o e => hg5.block g' (by subst e; exact (own_lt ho4).2.1) (by subst e; simp only [blkOf]; intro h; have := hA4.out g' rfl; injection h with h; omega))); have hwb5 : w.heap.size ≤ w5.heap.size := by omega) | (at_builtin; refine wpList_append_sl (base := w.heap.size) (A := A5) (n := p + r) (c := c5) (m := m' - (p + 2)) (A2 := A4) (L2 := insL (l.drop (p + 2))) rfl _ _ _ rfl Try.insT rfl ho5 rfl hS5.out hLd.out (by unfold maxLen; omega) (by omega) hwb5 ?_; intro A6 c6 w6 ho6 hg6 hat6))
            all_goals
              go_roundw
              case rel =>
                exact ⟨p - 1, p + r + (m' - (p + 2)), _, by congr 1; omega, RefAt.some Hm.out hm4 hp Hlook.out Hx.out Hy.out Hf.out ho6 (by simp [insL_append, insL_take]) (by rw [hr.out]) (hb2'.out.trans ((below_grown hg4 hwb2 (fun g' e => by cases e)).trans ((below_grown hg5 (by omega) (fun g' e => by simp only [blkOf, Option.some.injEq] at e; omega)).trans (below_grown hg6 (Nat.le_trans hwb2 (Nat.le_trans hg4.size hg5.size)) (own_blk ho5)))))⟩
              case measure => simp [intOf]; omega
      · have hp' : ¬ (p : Int) + 1 < m' := by omega
        have hE : lookC set (filt set xs) 0 = l := by rw [← Hlook.out]; exact lookC_end (by rw [← Hm.out]; omega)
        have hlen := Hm.out
        have hP := hpe.out
        rw [hE] at hP
        cases fw with
        | false =>
          have hP2 : peepF set xs = l := by rw [hP, if_neg (by simp), ← hE, hfa.out rfl]
          replace hP2 := Lib.hid hP2
          clear hP hE hlen
          go_wp2
          go_ret2
          exact ins_mk hP2.out Hm.out ho hbr
        | true =>
          simp only [if_true] at hP
          by_cases h0 : 0 < m'
          · have h0' : (0 : Int) < m' := by omega
            have hP2 : peepF set xs = l ++ [syncIns] := by rw [hP, if_neg (by intro h; rw [h] at hlen; simp at hlen; omega)]
            replace hP2 := Lib.hid hP2
            clear hP hE hlen
            go_wp2_with (at_builtin; refine wpList_append_one rfl _ _ _ rfl Try.insT rfl ho _ rfl (by simp) rfl (Ins.cells_one syncIns) (by unfold maxLen; omega) (by omega) hws ?_; intro g4 c4 w4 ho4 hg4 hat4)
            go_ret2
            exact ins_mk (L := l ++ [syncIns]) hP2.out (by rw [List.length_append, ← Hm.out]; rfl) (by rw [insL_snoc]; exact ho4) (hbr.trans (below_grown hg4 hws (own_blk ho)))
          · obtain rfl : m' = 0 := by omega
            have hl0 : l = [] := List.eq_nil_of_length_eq_zero hlen.symm
            have hP2 : peepF set xs = l := by rw [hP, if_pos hl0, hl0]
            replace hP2 := Lib.hid hP2
            clear hP hE hlen hl0
            go_wp2
            go_ret2
            exact ins_mk hP2.out Hm.out ho hbr
set_option maxHeartbeats 1000000 in
set_option maxRecDepth 100000 in
theorem ref_bad (set : Int) (A : Option Addr) (n c : Nat) (w : World) (h4 : n ≤ 4096) (hs : set < 0 ∨ 31 < set) : Calls Try.prog 14 #[.slice A n c, .int .i64 set] w fun e w' => e = .returned (.tuple #[.slice none 0 0, .int .i64 1]) ∧ Below w.heap.size w w' := by
  have hl : ¬ (4096 : Int) < n := by omega
  rcases hs with hs | hs
  all_goals
    go_enter Try.func14, Try.ntmps14
    go_wp2
    go_ret2
    exact ⟨rfl, Below.refl _ _⟩
end Go.Proofs.Ytbpgakghdpflnaa
