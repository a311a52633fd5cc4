/- pack.Check of every script: it is nought just where the script can stand. -/
import Derived.Test.YtgeiegjpnnbloaaDoorOneK
import Derived.Test.YtgeiegjpnnbloaaDoorSameS
namespace Go.Proofs.YtgeiegjpnnbloaaDoor
open Go.ChangeShapes Go.WideShapes Go.ChangeAt Go.ChangeMaps Go.RowKit Go.Deep

/-- The places that writes name. -/
def wrL (xs : List Ins) : List Int := (xs.filter fun x => x.op == 6).map Ins.ref
theorem wrL_snoc (xs : List Ins) (x : Ins) : wrL (xs ++ [x]) = wrL xs ++ (if x.op = 6 then [x.ref] else []) := by
  unfold wrL
  rw [List.filter_append, List.map_append]
  congr 1
  by_cases h : x.op = 6
  · rw [if_pos h, List.filter_cons_of_pos (by rw [h]; rfl)]; rfl
  · rw [if_neg h, List.filter_cons_of_neg (by simpa using h)]; rfl
def RefsOk (ids ws : List Int) : Prop := ids.Pairwise (· < ·) ∧ ∀ a, a ∈ ids ↔ a ∈ ws
def validS (s : Scr) : Prop := s.il ≤ 4096 ∧ (okPart s.pb = true ∧ okPart s.pi = true) ∧ (∀ x ∈ s.ins, okIns x) ∧ RefsOk (s.refs.map (·.1)) (wrL s.ins)
def ChkS (s : Scr) (w : World) (e : Ending) (w' : World) : Prop := ∃ E : Int, e = .returned (.int .i64 E) ∧ (E = 0 ↔ validS s) ∧ Below w.heap.size w w'
/-- A map that counts. -/
structure Cnt (es : List (Int × Value)) (ws : List Int) (k : Nat) : Prop where
  mem : ∀ a, a ∈ keysV es ↔ a ∈ ws
  val : ∀ a v, (a, v) ∈ es → ∃ c : Nat, v = .int .i64 c ∧ 1 ≤ c ∧ c ≤ k
  len : es.length ≤ k
theorem Cnt.nil : Cnt [] [] 0 := ⟨fun a => by simp [keysV], (fun a v h => nomatch h), Nat.le_refl _⟩
theorem Cnt.look {es : List (Int × Value)} {ws : List Int} {k : Nat} (h : Cnt es ws k) (a : Int) : ∃ c : Nat, (getV es a).getD (.int .i64 0) = .int .i64 c ∧ c ≤ k ∧ (c = 0 ↔ a ∉ ws) := by
  cases hg : getV es a with
  | none => exact ⟨0, rfl, Nat.zero_le _, ⟨fun _ hm => getV_none.1 hg ((h.mem a).2 hm), fun _ => rfl⟩⟩
  | some v =>
    obtain ⟨c, rfl, h1, h2⟩ := h.val a v (getV_some hg)
    exact ⟨c, rfl, h2, ⟨fun e => by omega, fun hn => absurd ((h.mem a).1 (key_mem (getV_some hg))) hn⟩⟩
theorem Cnt.more {es : List (Int × Value)} {ws : List Int} {k : Nat} (h : Cnt es ws k) : Cnt es ws (k + 1) :=
  ⟨h.mem, fun a v hm => by obtain ⟨c, e, h1, h2⟩ := h.val a v hm; exact ⟨c, e, h1, by omega⟩, Nat.le_succ_of_le h.len⟩
theorem putV_len (es : List (Int × Value)) (a : Int) (v : Value) : (putV es a v).length ≤ es.length + 1 := by
  unfold putV
  split
  · rw [List.length_map]; omega
  · rw [List.length_append]; simp
theorem Cnt.put {es : List (Int × Value)} {ws : List Int} {k : Nat} (h : Cnt es ws k) (hn : (keysV es).Nodup) (a : Int) (c : Nat) (h1 : 1 ≤ c) (h2 : c ≤ k + 1) : Cnt (putV es a (.int .i64 c)) (ws ++ [a]) (k + 1) := by
  refine ⟨fun b => ?_, fun b v hm => ?_, Nat.le_trans (putV_len es a _) (by have := h.len; omega)⟩
  · rw [putV_keys]
    split
    · rename_i hk
      rw [h.mem b, List.mem_append, List.mem_singleton]
      exact ⟨fun hb => .inl hb, fun hb => hb.elim id fun e => by rw [e]; exact (h.mem a).1 hk⟩
    · rw [List.mem_append, List.mem_append, List.mem_singleton, h.mem b]
  · by_cases e : b = a
    · subst e
      have := nodup_val (putV_nodup hn b (.int .i64 c)) hm (putV_mem es b _)
      exact ⟨c, this, h1, h2⟩
    · obtain ⟨d, e1, e2, e3⟩ := h.val b v ((putV_other e).1 hm)
      exact ⟨d, e1, e2, by omega⟩
theorem nodup_le : ∀ {l m : List Int}, l.Nodup → (∀ a ∈ l, a ∈ m) → l.length ≤ m.length
  | [], _, _, _ => Nat.zero_le _
  | x :: l, m, hn, hs => by
    have hx := hs x List.mem_cons_self
    obtain ⟨hxl, hl⟩ := List.nodup_cons.1 hn
    have h1 := nodup_le hl (m := m.erase x) fun a ha => by
      have hne : a ≠ x := fun e => hxl (e ▸ ha)
      exact (List.mem_erase_of_ne hne).2 (hs a (List.mem_cons_of_mem _ ha))
    have h2 := List.length_erase_of_mem hx
    have h3 := List.length_pos_of_mem hx
    rw [List.length_cons]
    omega
theorem nodup_same {l m : List Int} (hl : l.Nodup) (hs : ∀ a ∈ l, a ∈ m) (he : m.length ≤ l.length) : ∀ a ∈ m, a ∈ l := fun a ha => by
  refine Classical.byContradiction fun hn => ?_
  have h1 := nodup_le hl (m := m.erase a) fun b hb => by
    have hne : b ≠ a := fun e => hn (e ▸ hb)
    exact (List.mem_erase_of_ne hne).2 (hs b hb)
  have h2 := List.length_erase_of_mem ha
  have h3 := List.length_pos_of_mem ha
  omega
theorem rising_nodup {l : List Int} (h : l.Pairwise (· < ·)) : l.Nodup := h.imp fun hab => by omega
section
variable {α : Type} [DecidableEq α] {k : TypeId} {T : KT α k} {es : List (α × Value)} {ops : Array Oper} {rest : List Oper} {o : Oper} {a : Act} {Q : Exit → Act → World → Prop} {w : World}
theorem wpList_mv_lookG (hw : Region.wanted o (yielded ops a.tmps) = true) {t e : TypeId} {z : Value} (M : MT t k e z) (m x : Operand) (ho : o.op = .lookup t m x false) {b : Nat} (hm : a.eval m = .map (some b)) (h : MapV T w b es) {q : α} (hx : a.eval x = T.val q) (hq : T.ok q)
    {v : Value} (hv : (getV es q).getD z = v) (hK : wpList Tryd.prog ops Q rest (a.put o.dst v) w) : wpList Tryd.prog ops Q (o :: rest) a w := by
  rw [wpList, if_pos hw]
  refine .inl ?_
  unfold Oper.wp
  rw [exec_mv_look M ho hm hx h hq hv]
  exact hK
end
theorem refC_len {r : Int × List UInt8} (h : r.2.length = 32) : (refC r).length = 33 := by unfold refC; rw [List.length_cons, u8_len, h]
theorem refC_one (r : Int × List UInt8) : (refC r).toArray.all (·.oneCell') = true := by
  rw [Array.all_eq_true_iff_forall_mem]
  intro v hv
  rw [List.mem_toArray] at hv
  unfold refC at hv
  rcases List.mem_cons.1 hv with rfl | h
  · rfl
  · exact u8_one _ v h
theorem Sl.getR {w : World} {B n : Nat} {A : Option Addr} {rs : List (Int × List UInt8)} (h : Sl w B 33 A n (rs.flatMap refC)) (hn : rs.length = n) (h32 : ∀ r ∈ rs, r.2.length = 32) {k : Nat} (hk : k < n) :
    ∃ b o r, A = some ⟨b, o, none⟩ ∧ b < B ∧ rs[k]? = some r ∧ w.rangeAt b (o + k * 33) (refC r) := by
  obtain ⟨b, o, rfl, hb, hrow⟩ := h.2 (by omega)
  obtain ⟨r, hr⟩ : ∃ r, rs[k]? = some r := ⟨rs[k]'(by omega), List.getElem?_eq_getElem _⟩
  refine ⟨b, o, r, rfl, hb, hr, fun j v hv => ?_⟩
  have hj : j < 33 := by rw [← refC_len (h32 r (List.mem_of_getElem? hr))]; exact (List.getElem?_eq_some_iff.1 hv).1
  have key : ∀ (l : List (Int × List UInt8)) (q : Nat), (∀ r ∈ l, r.2.length = 32) → l[q]? = some r → (l.flatMap refC)[q * 33 + j]? = some v := by
    intro l
    induction l with
    | nil => intro q _ hq; cases hq
    | cons y l ih =>
      intro q hl hq
      have hy := refC_len (hl y List.mem_cons_self)
      cases q with
      | zero =>
        rw [List.getElem?_cons_zero] at hq
        injection hq with hq
        subst hq
        rw [List.flatMap_cons, Nat.zero_mul, Nat.zero_add, List.getElem?_append_left (by omega)]
        exact hv
      | succ q =>
        rw [List.getElem?_cons_succ] at hq
        rw [List.flatMap_cons, List.getElem?_append_right (by omega), hy, show (q + 1) * 33 + j - 33 = q * 33 + j by omega]
        exact ih q (fun r hr => hl r (List.mem_cons_of_mem _ hr)) hq
  have := hrow (k * 33 + j) v (key rs k h32 hr)
  rw [← Nat.add_assoc] at this
  exact this
theorem key_ok {a : Int} (h1 : 0 ≤ a) (h2 : a ≤ 65535) : intK.ok a := by
  show (Lit.int .i64 a).wf = true
  have e1 : IntKind.i64.min = -9223372036854775808 := rfl
  have e2 : IntKind.i64.max = 9223372036854775807 := rfl
  simp [Lit.wf, e1, e2]
  omega
theorem rising_snoc {l : List Int} {x : Int} : (l ++ [x]).Pairwise (· < ·) ↔ l.Pairwise (· < ·) ∧ ∀ a ∈ l, a < x := by
  rw [List.pairwise_append]
  simp
/-- While the refs are looked at: l is the last. -/
structure RInv (ids ws : List Int) (j : Nat) (l : Int) : Prop where
  rise : (ids.take j).Pairwise (· < ·)
  mem : ∀ a ∈ ids.take j, a ≤ l ∧ a ∈ ws
  last : (l = -1 ∧ j = 0) ∨ l ∈ ids.take j
theorem RInv.nil (ids ws : List Int) : RInv ids ws 0 (-1) := ⟨by rw [List.take_zero]; exact List.Pairwise.nil, (fun a ha => by rw [List.take_zero] at ha; cases ha), .inl ⟨rfl, rfl⟩⟩
theorem RInv.next {ids ws : List Int} {j : Nat} {l x : Int} (h : RInv ids ws j l) (e : ids.take (j + 1) = ids.take j ++ [x]) (hx : l < x) (hw : x ∈ ws) : RInv ids ws (j + 1) x := by
  refine ⟨by rw [e, rising_snoc]; exact ⟨h.rise, fun a ha => by have := (h.mem a ha).1; omega⟩, fun a ha => ?_, .inr (by rw [e]; simp)⟩
  rw [e, List.mem_append, List.mem_singleton] at ha
  rcases ha with ha | rfl
  · have := h.mem a ha
    exact ⟨by omega, this.2⟩
  · exact ⟨Int.le_refl _, hw⟩
set_option maxRecDepth 100000 in
set_option maxHeartbeats 8000000 in
theorem check_any (s : Scr) (w : World) (h : ScrAt w s) (hpd : ∀ x ∈ s.ins, x.path.size ≤ 1000 ∧ x.dst.size ≤ 1000) (hxr : ∀ x ∈ s.ins, 0 ≤ x.ref ∧ x.ref ≤ 65535) (hrr : ∀ r ∈ s.refs, 0 ≤ r.1 ∧ r.1 ≤ 65535) :
    Calls Tryd.prog 18 #[.agg s.C] w (ChkS s w) := by
  have hB := Blk.new w 30 s.C
  have hb := (Below.refl w.heap.size w).alloc (Nat.le_refl _) (.cells s.C 30)
  obtain ⟨c64, c65, c66⟩ := Scr.cell h.fl h.gl
  have b64 := (hB.cell 64).trans c64; have b65 := (hB.cell 65).trans c65
  have hl := hB.lt
  have H := Lib.hid h; have HPd := Lib.hid hpd; have HXr := Lib.hid hxr; have HRr := Lib.hid hrr
  have HP1 := Lib.hid (fun w => part_any s.pb h.pb w)
  have HP2 := Lib.hid (fun w => part_any s.pi h.pi w)
  have HC65 := Lib.hid c65; have HC66 := Lib.hid c66
  obtain ⟨C, hC⟩ : ∃ C, s.C = C := ⟨_, rfl⟩
  rw [hC] at hB hb hl b64 b65 HC65 HC66 ⊢
  obtain ⟨x, hx⟩ : ∃ x, F s.pb = x := ⟨_, rfl⟩
  obtain ⟨y, hy⟩ : ∃ x, F s.pi = x := ⟨_, rfl⟩
  rw [hx] at b64 HP1
  rw [hy] at b64 HP2
  obtain ⟨p, hp⟩ : ∃ x, okPart s.pb = x := ⟨_, rfl⟩
  obtain ⟨q, hq⟩ : ∃ x, okPart s.pi = x := ⟨_, rfl⟩
  rw [hp] at HP1
  rw [hq] at HP2
  have HPv := Lib.hid hp; have HQv := Lib.hid hq
  have him := h.im; have hrm := h.rm
  clear hC hx hy hp hq h hpd hxr hrr c64 c65 c66
  by_cases h1 : (4096 : Int) < s.il
  · go_enter Tryd.func18, Tryd.ntmps18
    go_wp2
    go_ret
    exact ⟨_, rfl, ⟨fun h => absurd h (by decide), fun h => by have := h.1; omega⟩, hb⟩
  cases p with
  | false =>
    go_enter Tryd.func18, Tryd.ntmps18
    go_wp2_with (first | (go_at_call 34; with_reducible refine (HP1.out _).mono ?_; rintro e w1 ⟨rfl, hw⟩; rw [hw]; clear hw))
    go_ret
    exact ⟨_, rfl, ⟨fun h => absurd h (by decide), fun h => by have := h.2.1.1; rw [HPv.out] at this; cases this⟩, hb⟩
  | true =>
  have tok : True := trivial
  cases q with
  | false =>
    go_enter Tryd.func18, Tryd.ntmps18
    go_wp2_with (first | (go_at_call 34; have _t := tok; clear tok _t; refine (HP1.out _).mono ?_; rintro e w1 ⟨rfl, hw⟩; rw [hw]; clear hw) | (go_at_call 34; refine (HP2.out _).mono ?_; rintro e w1 ⟨rfl, hw⟩; rw [hw]; clear hw))
    go_ret
    exact ⟨_, rfl, ⟨fun h => absurd h (by decide), fun h => by have := h.2.1.2; rw [HQv.out] at this; cases this⟩, hb⟩
  | true =>
  have hmm := @run_makeMap Tryd.prog
  go_enter Tryd.func18, Tryd.ntmps18
  go_upto_region 6 with (first | (go_at_call 34; have _t := tok; clear tok _t; refine (HP1.out _).mono ?_; rintro e w1 ⟨rfl, hw⟩; rw [hw]; clear hw) | (go_at_call 34; refine (HP2.out _).mono ?_; rintro e w1 ⟨rfl, hw⟩; rw [hw]; clear hw))
  obtain ⟨W, hW⟩ : ∃ W, W = (w.alloc (.cells C 30)).alloc (.map #[] 0) := ⟨_, rfl⟩
  have hBW : Blk W w.heap.size 30 C := by rw [hW]; exact hB.alloc _
  have hMW : MapV intK W (w.heap.size + 1) [] := by rw [hW]; have := MapV.new (T := intK) (w.alloc (.cells C 30)); rw [World.size_alloc] at this; exact this
  have hbW : Below w.heap.size w W := by rw [hW]; exact hb.alloc (by simp) _
  have hWs : W.heap.size = w.heap.size + 2 := by rw [hW, World.size_alloc, World.size_alloc]
  rw [← hW]
  have hil : s.il ≤ 4096 := by omega
  obtain ⟨IA, hIA⟩ : ∃ x, s.IA = x := ⟨_, rfl⟩
  obtain ⟨n, hn⟩ : ∃ x, s.il = x := ⟨_, rfl⟩
  have HIs := Lib.hid H.out.is; have HIl := Lib.hid H.out.il
  rw [hIA, hn] at HIs
  rw [hn] at HIl hil him
  have HIA := Lib.hid hIA; have HN := Lib.hid hn
  rw [hIA, hn] at HC65
  clear hW hB hb hl b64 b65 HP1 HP2 hmm hIA hn h1
  have b65 := (hBW.cell 65).trans HC65.out
  have hl := hBW.lt
  have Hbw0 := Lib.hid hbW
  go_wp2
  go_loopw [32] (fun v wr => ∃ (k : Nat) (es : List (Int × Value)), k ≤ n ∧ v = .int .i64 k ∧ Below w.heap.size W wr ∧ Blk wr w.heap.size 30 C ∧ MapV intK wr (w.heap.size + 1) es ∧ Cnt es (wrL (s.ins.take k)) k ∧ (∀ x ∈ s.ins.take k, okIns x)) (fun v _ => n - (intOf v).toNat)
  case atStart => exact ⟨0, [], Nat.zero_le _, rfl, Below.refl _ _, hBW, hMW, by rw [List.take_zero]; exact Cnt.nil, (fun x hx => by rw [List.take_zero] at hx; cases hx)⟩
  case round =>
  obtain ⟨k, es, hk, rfl, hbr, hBr, hMr, hcn, hok⟩ := hrel
  have HCn := Lib.hid hcn; have HOk := Lib.hid hok; have Hbr := Lib.hid hbr; have HMr := Lib.hid hMr; have HBr := Lib.hid hBr
  have hrs := hbr.size
  clear hcn hok hBW hMW b65 hl hMr
  by_cases hlt : k < n
  · have hki : (k : Int) < n := by omega
    obtain ⟨tb, to', z, rfl, htb, hz, hcz⟩ := (HIs.out.below (hbW.trans (hbr.mono (Nat.le_refl _))) (Nat.le_refl _)).get (f := Ins.list) (fun _ => rfl) HIl.out hlt
    have hzm := List.mem_of_getElem? hz
    have hzs := HPd.out z hzm
    have hzr := HXr.out z hzm
    have HTk := Lib.hid (take_snoc' hz)
    obtain ⟨op, zp, zd, md, rf⟩ := z
    simp only at hzs hzr
    have a0 := hcz 0 _ rfl; have a1 := hcz 1 _ rfl; have a2 := hcz 2 _ rfl; have a3 := hcz 3 _ rfl; have a4 := hcz 4 _ rfl
    simp only [Nat.add_zero] at a0 a1 a2 a3 a4
    have htl : tb < wr.heap.size := by omega
    clear hcz hz htb hbr hBr
    go_upto_region 9 with (refine wpList_store_new rfl _ _ _ rfl _ _ _ rfl rfl (by kernel_rfl) (by rfl) (by kernel_rfl) ?_)
    have hN := Blk.new wr 42 #[.int .i64 op, .string zp, .string zd, .int .i64 md, .int .i64 rf]
    have hbn := Hbr.out.alloc (by omega) (.cells #[.int .i64 op, .string zp, .string zd, .int .i64 md, .int .i64 rf] 42)
    have hBn := HBr.out.alloc (.cells #[.int .i64 op, .string zp, .string zd, .int .i64 md, .int .i64 rf] 42)
    have hMn : MapV intK (wr.alloc (.cells #[.int .i64 op, .string zp, .string zd, .int .i64 md, .int .i64 rf] 42)) (w.heap.size + 1) es := HMr.out.keep (Below.heap_alloc wr _ _ (by omega))
    obtain ⟨W2, hW2⟩ : ∃ W2, W2 = wr.alloc (.cells #[.int .i64 op, .string zp, .string zd, .int .i64 md, .int .i64 rf] 42) := ⟨_, rfl⟩
    have hW2s : W2.heap.size = wr.heap.size + 1 := by rw [hW2, World.size_alloc]
    rw [← hW2] at hN hbn hBn hMn ⊢
    have n0 := hN.cell 0; have n1 := hN.cell 1; have n2 := hN.cell 2; have n3 := hN.cell 3; have n4 := hN.cell 4
    have hNl := hN.lt
    have HCk := Lib.hid (chk_any ⟨op, zp, zd, md, rf⟩ hzs.1 hzs.2 W2)
    unfold Ins.cells at HCk
    have Hbn := Lib.hid hbn; have HBn := Lib.hid hBn; have HMn := Lib.hid hMn
    clear hW2 a0 a1 a2 a3 a4 htl hbn hBn hMn
    go_upto_region 10 with (go_at_call 35; refine HCk.out.mono ?_; rintro e w3 ⟨E, rfl, hE, hb3⟩)
    have hN3 := hN.below hb3 hNl
    have hN3l := hN3.lt
    have hs3 := hb3.size
    have hbw3 := Hbn.out.trans (hb3.mono (by omega))
    have hB3 := HBn.out.below hb3 HBn.out.lt
    have hM3 := HMn.out.keep (hb3.block _ (by omega))
    clear n0 n1 n2 n3 n4
    by_cases hE0 : E = 0
    rotate_left
    · have e0 : (E != 0) = true := bne_iff_ne.2 hE0
      have HE := Lib.hid hE
      clear hE
      go_wp2
      go_ret
      exact ⟨_, rfl, ⟨fun h => absurd h hE0, fun h => absurd (HE.out.2 (h.2.2.1 _ hzm)) hE0⟩, Hbw0.out.trans hbw3⟩
    have hokz : okIns ⟨op, zp, zd, md, rf⟩ := hE.1 hE0
    subst hE0
    have hok1 : ∀ x ∈ s.ins.take (k + 1), okIns x := fun x hx => by
      rw [HTk.out, List.mem_append, List.mem_singleton] at hx
      exact hx.elim (HOk.out x) (fun e => e ▸ hokz)
    have n0 := hN3.cell 0; have n4 := hN3.cell 4
    have HOk1 := Lib.hid hok1; have Hbw3 := Lib.hid hbw3; have HB3 := Lib.hid hB3
    have hlen := HCn.out.len
    clear hE hok1 hokz hbw3 hB3 hb3 HCk HMn HBn Hbn hN
    by_cases h6 : op = 6
    · subst h6
      have hwr : wrL (s.ins.take (k + 1)) = wrL (s.ins.take k) ++ [rf] := by rw [HTk.out, wrL_snoc]; rfl
      have HWr := Lib.hid hwr
      obtain ⟨c, hc, hck, _⟩ := HCn.out.look rf
      have HC := Lib.hid hc
      have hck4 : c ≤ 4096 := by omega
      have hkey := key_ok hzr.1 hzr.2
      clear hwr hc
      go_wp2_with (first | (refine wpList_mv_look (q := rf) rfl Tryd.mtII (.tmp 44) (.tmp 46) rfl rfl hM3 rfl hkey HC.out ?_) | (refine wpList_mv_put (q := rf) rfl Tryd.mtII (.tmp 44) (.tmp 46) (.tmp 48) (.inl rfl) rfl hM3 rfl hkey rfl (by unfold maxLen; omega) ?_; intro w4 hM4 hg4 hs4))
      go_roundw
      case rel =>
        refine ⟨k + 1, _, by omega, by go_num, Hbw3.out.trans (below_grown hg4 (by omega) (fun g e => by injection e with e; omega)), HB3.out.keep (hg4.block _ HB3.out.lt (fun e => by injection e with e; omega)), hM4, ?_, HOk1.out⟩
        rw [HWr.out]
        exact HCn.out.put HMr.out.1 rf (c + 1) (by omega) (by omega)
      case measure => simp [intOf]; omega
    · have hwr : wrL (s.ins.take (k + 1)) = wrL (s.ins.take k) := by rw [HTk.out, wrL_snoc, if_neg h6, List.append_nil]
      have HWr := Lib.hid hwr
      clear hwr
      go_wp2
      go_roundw
      case rel =>
        refine ⟨k + 1, es, by omega, by go_num, Hbw3.out, HB3.out, hM3, ?_, HOk1.out⟩
        rw [HWr.out]
        exact HCn.out.more
      case measure => simp [intOf]; omega
  obtain ⟨V, hV⟩ : ∃ V, V = wr := ⟨_, rfl⟩
  subst hV
  obtain rfl : k = n := by omega
  have hki : ¬ (k : Int) < k := by omega
  have hall : s.ins.take k = s.ins := List.take_of_length_le (by rw [HIl.out]; exact Nat.le_refl _)
  have hcn := HCn.out
  have hok := HOk.out
  rw [hall] at hcn hok
  have HCn := Lib.hid hcn; have HOk := Lib.hid hok
  have b66 := (HBr.out.cell 66).trans HC66.out
  have hl2 := HBr.out.lt
  have HR0 := (H.out.rs.below (hbW.trans (hbr.mono (by omega))) (Nat.le_refl _))
  have HRl := H.out.rl
  obtain ⟨RA, hRA⟩ : ∃ x, s.RA = x := ⟨_, rfl⟩
  obtain ⟨m, hm⟩ : ∃ x, s.rl = x := ⟨_, rfl⟩
  obtain ⟨rc, hrc⟩ : ∃ x, s.rc = x := ⟨_, rfl⟩
  rw [hRA, hm] at HR0
  rw [hm] at HRl hrm
  rw [hRA, hm, hrc] at b66
  unfold maxLen at hrm
  have HRs := Lib.hid HR0; have HRl := Lib.hid HRl
  clear hcn hok hall hbr hBr HR0 hRA hm hrc
  go_wp2
  go_loopw [7, 53] (fun L v w2 => ∃ (j : Nat) (l : Int), j ≤ m ∧ v = .int .i64 j ∧ L = .int .i64 l ∧ Below V.heap.size V w2 ∧ RInv (s.refs.map (·.1)) (wrL s.ins) j l) (fun _ v _ => m - (intOf v).toNat)
  case atStart => exact ⟨0, -1, Nat.zero_le _, rfl, rfl, Below.refl _ _, RInv.nil _ _⟩
  case round =>
  obtain ⟨j, l, hj, rfl, rfl, hbr2, hri⟩ := hrel
  have HRi := Lib.hid hri; have Hbr2 := Lib.hid hbr2
  have hrs2 := hbr2.size
  clear hri
  by_cases hlt : j < m
  · have hji : (j : Int) < m := by omega
    obtain ⟨tb, to', r, rfl, htb, hr, hrg⟩ := (HRs.out.below (hbr2.mono (by omega)) (Nat.le_refl _)).getR HRl.out H.out.r32 hlt
    have hrmem := List.mem_of_getElem? hr
    have hr32 := H.out.r32 r hrmem
    have hrr := HRr.out r hrmem
    have hid : (s.refs.map (·.1))[j]? = some r.1 := by rw [List.getElem?_map, hr]; rfl
    have hidm : r.1 ∈ s.refs.map (·.1) := List.mem_of_getElem? hid
    have HTk := Lib.hid (take_snoc' hid)
    have hr33 := refC_len hr32
    have hr0 : (refC r).toArray[0]? = some (.int .i64 r.1) := rfl
    have hrone := refC_one r
    obtain ⟨ra, hra⟩ : ∃ a, r.1 = a := ⟨_, rfl⟩
    rw [hra] at hrr hidm hr0 HTk
    obtain ⟨RC, hRC⟩ : ∃ a, refC r = a := ⟨_, rfl⟩
    rw [hRC] at hrg hr33 hr0 hrone
    have hrsz : RC.toArray.size = 33 := hr33
    have htl : tb < wr.heap.size := by omega
    clear hra hRC hr hrmem hr32 hid htb hbr2
    go_upto_region 19 with (first | (refine wpList_load_mid rfl 58 (.tmp 55) rfl tb (to' + j * 33) rfl RC _ hrg Tryd.underlying58 rfl (by rw [hr33]; kernel_rfl) ?_) | (refine wpList_store_new rfl 58 (.tmp 9) (.tmp 56) rfl 58 _ RC.toArray rfl rfl (by rw [hrsz]; kernel_rfl) (by rw [hrsz]; rfl) hrone ?_))
    have hN := Blk.new wr 58 RC.toArray
    have hbn := Hbr2.out.alloc (by omega) (.cells RC.toArray 58)
    obtain ⟨W3, hW3⟩ : ∃ W3, W3 = wr.alloc (.cells RC.toArray 58) := ⟨_, rfl⟩
    have hW3s : W3.heap.size = wr.heap.size + 1 := by rw [hW3, World.size_alloc]
    rw [← hW3] at hN hbn ⊢
    have n0 := (hN.cell 0).trans hr0
    have hNl := hN.lt
    have Hbn := Lib.hid hbn
    have hM3 := HMr.out.keep (hbn.block _ HMr.out.lt)
    clear hW3 hN hrg hr33 hrsz hrone hr0 htl hbn
    have hkey := key_ok hrr.1 hrr.2
    obtain ⟨c, hc, hck, hcz⟩ := HCn.out.look ra
    have HC := Lib.hid hc; have HCz := Lib.hid hcz
    clear hc hcz
    by_cases hle : ra ≤ l
    · have hnv : ¬ validS s := fun hv => by
        have h2 := hv.2.2.2.1.sublist (List.take_sublist (j + 1) (s.refs.map (·.1)))
        rw [HTk.out, rising_snoc] at h2
        rcases HRi.out.last with ⟨e, _⟩ | e
        · omega
        · have := h2.2 l e; omega
      have HNv := Lib.hid hnv
      clear hnv
      go_wp2_with (fail)
      go_ret
      exact ⟨_, rfl, ⟨fun h => absurd h (by decide), fun h => absurd h HNv.out⟩, hbW.trans ((Hbr.out.mono (by omega)).trans (Hbn.out.mono (by omega)))⟩
    by_cases hc0 : c = 0
    · subst hc0
      have hnv : ¬ validS s := fun hv => HCz.out.1 rfl ((hv.2.2.2.2 ra).1 hidm)
      have HNv := Lib.hid hnv
      clear hnv
      go_wp2_with (refine wpList_mv_lookG (q := ra) rfl Tryd.mtII (.tmp 62) (.tmp 64) rfl rfl hM3 rfl hkey HC.out ?_)
      go_ret
      exact ⟨_, rfl, ⟨fun h => absurd h (by decide), fun h => absurd h HNv.out⟩, hbW.trans ((Hbr.out.mono (by omega)).trans (Hbn.out.mono (by omega)))⟩
    have hws : ra ∈ wrL s.ins := Classical.byContradiction fun hn => hc0 (HCz.out.2 hn)
    have hcp : ¬ (c : Int) = 0 := by omega
    have HWs := Lib.hid hws
    clear hws
    go_wp2_with (refine wpList_mv_lookG (q := ra) rfl Tryd.mtII (.tmp 62) (.tmp 64) rfl rfl hM3 rfl hkey HC.out ?_)
    go_roundw
    case rel => exact ⟨j + 1, ra, by omega, by go_num, rfl, Hbn.out, HRi.out.next HTk.out (by omega) HWs.out⟩
    case measure => simp [intOf]; omega
  obtain rfl : j = m := by omega
  have hji : ¬ (j : Int) < j := by omega
  have hM4 := HMr.out.keep (hbr2.block _ HMr.out.lt)
  have hB4 := HBr.out.below hbr2 hl2
  have b66' := (hB4.cell 66).trans ((HBr.out.cell 66).symm.trans b66)
  have hl4 := hB4.lt
  have hidl : (s.refs.map (·.1)).take j = s.refs.map (·.1) := List.take_of_length_le (by rw [List.length_map, HRl.out]; exact Nat.le_refl _)
  have hri := HRi.out
  have hri1 := hri.rise
  have hri2 := hri.mem
  rw [hidl] at hri1 hri2
  have hkl : (keysV es).length = es.length := by unfold keysV; rw [List.length_map]
  have hil2 : (s.refs.map (·.1)).length = j := by rw [List.length_map, HRl.out]
  have hfin : es.length = j ↔ validS s := by
    constructor
    · intro he
      refine ⟨by have := HN.out; omega, ⟨HPv.out, HQv.out⟩, HOk.out, hri1, fun a => ⟨fun ha => (hri2 a ha).2, fun ha => ?_⟩⟩
      exact nodup_same (rising_nodup hri1) (m := keysV es) (fun b hb => (HCn.out.mem b).2 (hri2 b hb).2) (by rw [hkl, hil2, he]; exact Nat.le_refl _) a ((HCn.out.mem a).2 ha)
    · intro hv
      have := len_of_same (rising_nodup hri1) HMr.out.1 fun a => (hv.2.2.2.2 a).trans (HCn.out.mem a).symm
      omega
  have HFin := Lib.hid hfin
  obtain ⟨el, hel⟩ : ∃ x, es.length = x := ⟨_, rfl⟩
  rw [hel] at HFin
  have HEl := Lib.hid hel
  clear hri hri1 hri2 hidl hkl hil2 hfin hel b66 hbr2
  by_cases hje : j = el
  · subst hje
    go_wp2_with (refine wpList_mv_len rfl Tryd.mtII _ rfl rfl hM4 HEl.out ?_)
    go_ret
    exact ⟨_, rfl, ⟨fun _ => HFin.out.1 (by first | rfl | trivial), fun _ => rfl⟩, hbW.trans ((Hbr.out.mono (by omega)).trans (Hbr2.out.mono (by omega)))⟩
  · have hje1 : ¬ (j : Int) = el := by omega
    go_wp2_with (refine wpList_mv_len rfl Tryd.mtII _ rfl rfl hM4 HEl.out ?_)
    go_ret
    exact ⟨_, rfl, ⟨fun h => absurd h (by decide), fun h => absurd (HFin.out.2 h) (fun e => hje e.symm)⟩, hbW.trans ((Hbr.out.mono (by omega)).trans (Hbr2.out.mono (by omega)))⟩
end Go.Proofs.YtgeiegjpnnbloaaDoor
