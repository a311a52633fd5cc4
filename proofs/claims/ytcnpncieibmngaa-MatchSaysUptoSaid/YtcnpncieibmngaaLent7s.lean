/- shuntlaw7.Lent, Stay: contents in memory of their own. shuntlaw7.Stay: lent contents are as they were. -/
import Derived.Test.YtcnpncieibmngaaCanonP
import Derived.Test.YtcnpncieibmngaaKit
import Derived.Test.YtcnpncieibmngaaOpenS

namespace Go.Proofs.Ytcnpncieibmngaa
open Go.RowKit

theorem Try.stockT : ElemT Try.prog 36 45 1 24 := ElemT.mk' (z := .slice none 0 0) Try.underlying36 (by kernel_rfl) rfl (by decide)
/-- Contents that were lent: a byte more behind each, and one more of them. -/
structure Lent7At (W : World) (A : Option Addr) (n c : Nat) (ss : List SC) : Prop where
  c : n + 1 ≤ c
  last : ∃ g b, A = some ⟨g, 0, none⟩ ∧ g < W.heap.size ∧ b < W.heap.size ∧ W.cell? ⟨g, n, none⟩ = some (.slice (some ⟨b, 0, none⟩) 1 1) ∧ W.cell? ⟨b, 0, none⟩ = some (.int .u8 113)
  data : ∀ (k : Nat) (x : SC), ss[k]? = some x → x.n + 1 ≤ x.c ∧ ∃ b, x.A = some ⟨b, 0, none⟩ ∧ b < W.heap.size ∧ W.cell? ⟨b, x.n, none⟩ = some (.int .u8 167)
theorem Lent7At.keep {W W' : World} {A : Option Addr} {n c : Nat} {ss : List SC} (h : Lent7At W A n c ss) (hb : Below W.heap.size W W') : Lent7At W' A n c ss :=
  ⟨h.c, let ⟨g, b, e, h1, h2, h3, h4⟩ := h.last; ⟨g, b, e, Nat.lt_of_lt_of_le h1 hb.size, Nat.lt_of_lt_of_le h2 hb.size, (hb.cell (p := ⟨g, _, none⟩) h1).trans h3, (hb.cell (p := ⟨b, _, none⟩) h2).trans h4⟩,
    fun k x hk => ⟨(h.data k x hk).1, let ⟨b, e, hl, hc⟩ := (h.data k x hk).2; ⟨b, e, Nat.lt_of_lt_of_le hl hb.size, (hb.cell (p := ⟨b, _, none⟩) hl).trans hc⟩⟩⟩
/-- What stands ahead of each round. -/
def Lent7F (w wr : World) (v : Value) (sd : List ByteArray) (j : Nat) : Prop :=
  ∃ (A : Option Addr) (c : Nat) (gs : List SC), v = .slice A j c ∧ wr.ownsRow w.heap.size 45 1 (.slice A j c) j (gs.flatMap SC.list) ∧ gs.length = j ∧
    (∀ (k : Nat) (f : SC) (d : ByteArray), gs[k]? = some f → sd[k]? = some d → f.n = d.size ∧ ∃ g, f.A = some ⟨g, 0, none⟩ ∧ wr.ownsRow w.heap.size 5 1 (.slice (some ⟨g, 0, none⟩) (f.n + 1) f.c) (f.n + 1) (bytesC d ++ [.int .u8 167])) ∧ Below w.heap.size w wr
theorem lent7_step {w wr W : World} {sd : List ByteArray} {j : Nat} {Af : Option Addr} {cf : Nat} {gs : List SC} (hof : wr.ownsRow w.heap.size 45 1 (.slice Af j cf) j (gs.flatMap SC.list)) (hgl : gs.length = j)
    (hrow : ∀ (k : Nat) (f : SC) (d : ByteArray), gs[k]? = some f → sd[k]? = some d → f.n = d.size ∧ ∃ g, f.A = some ⟨g, 0, none⟩ ∧ wr.ownsRow w.heap.size 5 1 (.slice (some ⟨g, 0, none⟩) (f.n + 1) f.c) (f.n + 1) (bytesC d ++ [.int .u8 167])) (hb : Below w.heap.size w wr) (hG : wr.grownBy W (blkOf Af))
    {n : Nat} {d : ByteArray} (hd : sd[j]? = some d) (hdn : d.size = n) {gb cb : Nat} (hob : W.ownsRow w.heap.size 5 1 (.slice (some ⟨gb, 0, none⟩) (n + 1) cb) (n + 1) (bytesC d ++ [.int .u8 167])) {Az : Option Addr} {cz : Nat}
    (hoz : W.ownsRow w.heap.size 45 1 (.slice Az (j + 1) cz) (j + 1) (gs.flatMap SC.list ++ [.slice (some ⟨gb, 0, none⟩) n cb])) : Lent7F w W (.slice Az (j + 1) cz) sd (j + 1) := by
  refine ⟨Az, cz, gs ++ [⟨some ⟨gb, 0, none⟩, n, cb⟩], rfl, by rw [List.flatMap_append]; exact hoz, by rw [List.length_append, hgl]; rfl, fun k f d' hk hd' => ?_, hb.trans (below_grown hG hb.size (fun g e => own_blk1 hof g e))⟩
  rcases Nat.lt_trichotomy k gs.length with h | h | h
  · rw [List.getElem?_append_left h] at hk
    obtain ⟨h1, g, h2, h3⟩ := hrow k f d' hk hd'
    exact ⟨h1, g, h2, own_keep h3 fun g' o e => hG.block g' (own_lt2 (by rw [← e]; exact h3)).2.1 (row_ne_row h3 hof (by decide) (by rw [e]; rfl))⟩
  · subst h
    rw [List.getElem?_append_right (Nat.le_refl _), Nat.sub_self] at hk
    simp only [List.getElem?_cons_zero, Option.some.injEq] at hk
    subst hk
    rw [hgl, hd] at hd'
    injection hd' with hd'
    subst hd'
    exact ⟨hdn.symm, gb, rfl, hob⟩
  · rw [List.getElem?_eq_none (by simp; omega)] at hk; cases hk
theorem b167_one : ∀ u ∈ ([.int .u8 167] : List Value), u.oneCell' = true := by simp [Value.oneCell']
theorem sl_one (A : Option Addr) (n c : Nat) : ∀ u ∈ ([.slice A n c] : List Value), u.oneCell' = true := by simp [Value.oneCell']
set_option maxRecDepth 100000 in
set_option maxHeartbeats 8000000 in
theorem lent7_any (SA : Option Addr) (sn sc : Nat) (ss : List SC) (sd : List ByteArray) (w : World) (h : StockAt w SA sn ss sd) (hn1 : sn ≤ 2000000) (hsm : ∀ x ∈ ss, x.n ≤ 2000000) :
    Calls Try.prog 20 #[.slice SA sn sc] w fun e w' => ∃ A c gs, e = .returned (.slice A sn c) ∧ Lent7At w' A sn c gs ∧ StockAt w' A sn gs sd ∧ Below w.heap.size w w' := by
  have HS := Lib.hid h; have HSM := Lib.hid hsm
  have hsl := h.sl
  have HSl := Lib.hid hsl
  clear h hsm hsl
  have h0 : Lent7F w w (.slice none 0 0) sd 0 := ⟨none, 0, [], rfl, World.ownsRow_nil _ _ _ _, rfl, fun k f d hf => (by simp at hf), Below.refl _ _⟩
  have H0 := Lib.hid h0
  clear h0
  go_enter Try.func20, Try.ntmps20
  go_wp2
  go_loopw [3, 4] (fun v3 v wr => ∃ j : Nat, j ≤ sn ∧ v = .int .i64 j ∧ Lent7F w wr v3 sd j) (fun _ v _ => sn - (intOf v).toNat)
  case atStart => exact ⟨0, Nat.zero_le _, rfl, H0.out⟩
  case round =>
    clear H0
    obtain ⟨j, hj, rfl, Af, cf, gs, rfl, hof, hgl, hrow, hb⟩ := hrel
    have Hgl := Lib.hid hgl; have Hrow := Lib.hid hrow
    clear hgl hrow
    have hs := hb.size
    by_cases hlt : j < sn
    · have hki : (j : Int) < sn := by omega
      obtain ⟨xb, xo, x, rfl, hxb, hx, hc⟩ := (HSl.out.below hb (Nat.le_refl _)).get SC.len HS.out.len hlt
      have c0 := hc 0 _ rfl
      simp only [Nat.add_zero, Nat.mul_one] at c0
      obtain ⟨d, hd⟩ : ∃ d, sd[j]? = some d := ⟨_, List.getElem?_eq_getElem (by rw [HS.out.dlen]; exact hlt)⟩
      obtain ⟨hdn, hds⟩ := HS.out.dat j x d hx hd
      have hxn : x.n ≤ 2000000 := HSM.out x (List.mem_of_getElem? hx)
      have Hd := Lib.hid hd; have Hdn := Lib.hid hdn; have Hds := Lib.hid hds
      clear hc hx hd hdn hds
      have hxw : xb < wr.heap.size := by omega
      have hneX : ¬ some xb = blkOf Af := fun e => by have := own_blk1 hof xb e.symm; omega
      go_upto_region 5 with (fail)
      have hof0 := hof
      refine wp_region_T (blkOf Af) (.q 0 (.q 1 (.q 2 (.q 3 (.q 4 (.q 8 (.q 9 (.q 10 (.q 11 (.q 12 (.e2 5 6 (.e1 6 (.e1 7 (.q 13 (.e1 14 (.e1 15 (.q 16 .done)))))) (.e1 5 (.e1 7 (.q 13 (.e1 14 (.e1 15 (.q 16 .done))))))))))))))))) (by kernel_rfl) (by kernel_rfl) fun hG0 => ?_
      repeat (first
        | (refine tree_skip rfl (by rfl) ?_; simp only [Act.put, List.setIfInBounds_toArray, List.set_cons_zero, List.set_cons_succ])
        | (refine tree_qE rfl (by rfl) ?_; apply Exists.intro; refine ⟨fun w' hc' => ?_, ?_⟩; (focus (go_simp; (try go_bits); (try simp only [↓IntWalk.iteOmega]); with_reducible rfl)); simp only [Act.put, List.setIfInBounds_toArray, List.set_cons_zero, List.set_cons_succ]))
      refine tree_e2 (tree_step rfl fun K hK => ?_) (tree_step rfl fun K hK => ?_)
      · have hsz5 : w.heap.size ≤ (wr.drew).heap.size := Nat.le_trans hs hG0.size
        go_wp2_with (at_builtin; refine wpList_append_sl rfl _ _ _ rfl Try.u8T rfl (World.ownsRow_nil (wr.drew) w.heap.size _ _) rfl (Hds.out.below (hb.trans (below_grown hG0 hs (fun g e => own_blk1 hof0 g e))) (Nat.le_refl _)) (bytesC_one d) (by unfold maxLen; omega) (by omega) hsz5 ?_; intro Aa ca w5 hoa hg5 hat5)
        simp only [Nat.zero_add, List.nil_append] at hoa ⊢
        have hgN : (wr.drew).grownBy w5 none := hg5
        have hlowa : ∀ g, blkOf Aa = some g → wr.heap.size ≤ g := fun g e => (hat5 g e).elim (fun h => by cases h) (fun h => Nat.le_trans hG0.size h)
        replace hof := own_keep hof fun g o e => hgN.block g (own_lt2 (by rw [← e]; exact hof)).2.1 (by simp)
        have hG1 := grown_trans hG0 (grown_any hgN)
        clear hg5 hat5 hgN
        refine hK.out _ _ hG1 ?_
        clear hK K
        refine tree_e1 (tree_step rfl fun K hK => ?_)
        have hgN := World.grownBy_alloc (w5) (.cells #[.int .u8 167] 5) none
        have hBe : Blk (World.alloc (w5) (.cells #[.int .u8 167] 5)) (w5.heap.size) 5 #[.int .u8 167] := by first | exact Blk.new (w5) 5 #[.int .u8 167] | (have h := Blk.new (w5) 5 #[.int .u8 167]; simp only [World.size_alloc] at h; exact h)
        have pref := hof
        have prea := hoa
        replace hof := own_keep hof fun g o e => hgN.block g (own_lt2 (by rw [← e]; exact hof)).2.1 (by simp)
        replace hoa := own_keep hoa fun g o e => hgN.block g (own_lt2 (by rw [← e]; exact hoa)).2.1 (by simp)
        go_wp2_with (fail)
        have hG2 := grown_trans hG1 (grown_any hgN)
        refine hK.out _ _ hG2 ?_
        clear hK K
        obtain ⟨Ne, hNe⟩ : ∃ N, (w5.heap.size) = N := ⟨_, rfl⟩
        have hNle : wr.heap.size ≤ w5.heap.size := by first | exact Nat.le_refl _ | exact hG1.size | (have h := hG1.size; simp only [World.size_alloc] at h; exact h)
        clear hNe Ne hgN
        refine tree_e1 (tree_step rfl fun K hK => ?_)
        have hsz7 : w.heap.size ≤ (World.alloc (w5) (.cells #[.int .u8 167] 5)).heap.size := Nat.le_trans hs hG2.size
        have hel7 : Sl (World.alloc (w5) (.cells #[.int .u8 167] 5)) (World.alloc (w5) (.cells #[.int .u8 167] 5)).heap.size 1 (some ⟨w5.heap.size, 0, none⟩) 1 ([.int .u8 167]) := Sl.blk hBe rfl rfl hBe.lt
        go_wp2_with (at_builtin; refine wpList_append_sl rfl _ _ _ rfl Try.u8T rfl hoa rfl hel7 (b167_one) (by unfold maxLen; omega) (by omega) hsz7 ?_; intro Ab cb w7 hob hg7 hat7)
        have hgN : (World.alloc (w5) (.cells #[.int .u8 167] 5)).grownBy w7 (blkOf Aa) := hg7
        have hlowb : ∀ g, blkOf Ab = some g → wr.heap.size ≤ g := fun g e => (hat7 g e).elim (fun h => hlowa g h) (fun h => Nat.le_trans hG2.size h)
        replace hof := own_keep hof fun g o e => hgN.block g (own_lt2 (by rw [← e]; exact hof)).2.1 (row_ne_row hof hoa (by decide) (by rw [e]; rfl))
        have hG3 := grown_own hG2 hgN (fun g e => .inr (hlowa g e))
        clear hg7 hat7 hgN hoa hBe hel7
        refine hK.out _ _ hG3 ?_
        clear hK K
        obtain ⟨gb, rfl⟩ := own_some hob (by omega)
        have hcap := (own_row hob).2.2.2.1
        have hcapi : (x.n : Int) ≤ cb := by omega
        repeat (first
          | (refine tree_skip rfl (by rfl) ?_; simp only [Act.put, List.setIfInBounds_toArray, List.set_cons_zero, List.set_cons_succ])
          | (refine tree_qE rfl (by rfl) ?_; apply Exists.intro; refine ⟨fun w' hc' => ?_, ?_⟩; (focus (go_simp; (try go_bits); (try simp only [↓IntWalk.iteOmega]); with_reducible rfl)); simp only [Act.put, List.setIfInBounds_toArray, List.set_cons_zero, List.set_cons_succ]))
        refine tree_e1 (tree_step rfl fun K hK => ?_)
        have hgN := World.grownBy_alloc (w7) (.cells #[.slice (some ⟨gb, 0, none⟩) x.n cb] 45) none
        have hBs : Blk (World.alloc (w7) (.cells #[.slice (some ⟨gb, 0, none⟩) x.n cb] 45)) (w7.heap.size) 45 #[.slice (some ⟨gb, 0, none⟩) x.n cb] := by first | exact Blk.new (w7) 45 #[.slice (some ⟨gb, 0, none⟩) x.n cb] | (have h := Blk.new (w7) 45 #[.slice (some ⟨gb, 0, none⟩) x.n cb]; simp only [World.size_alloc] at h; exact h)
        have pref := hof
        have preb := hob
        replace hof := own_keep hof fun g o e => hgN.block g (own_lt2 (by rw [← e]; exact hof)).2.1 (by simp)
        replace hob := own_keep hob fun g o e => hgN.block g (own_lt2 (by rw [← e]; exact hob)).2.1 (by simp)
        go_wp2_with (fail)
        have hG4 := grown_trans hG3 (grown_any hgN)
        refine hK.out _ _ hG4 ?_
        clear hK K
        obtain ⟨Ns, hNs⟩ : ∃ N, (w7.heap.size) = N := ⟨_, rfl⟩
        have hNls : wr.heap.size ≤ w7.heap.size := by first | exact Nat.le_refl _ | exact hG3.size | (have h := hG3.size; simp only [World.size_alloc] at h; exact h)
        clear hNs Ns hgN
        refine tree_e1 (tree_step rfl fun K hK => ?_)
        have hsz15 : w.heap.size ≤ (World.alloc (w7) (.cells #[.slice (some ⟨gb, 0, none⟩) x.n cb] 45)).heap.size := Nat.le_trans hs hG4.size
        have hel15 : Sl (World.alloc (w7) (.cells #[.slice (some ⟨gb, 0, none⟩) x.n cb] 45)) (World.alloc (w7) (.cells #[.slice (some ⟨gb, 0, none⟩) x.n cb] 45)).heap.size 1 (some ⟨w7.heap.size, 0, none⟩) 1 ([.slice (some ⟨gb, 0, none⟩) x.n cb]) := Sl.blk hBs rfl rfl hBs.lt
        go_wp2_with (at_builtin; refine wpList_append_sl rfl _ _ _ rfl Try.stockT rfl hof rfl hel15 (sl_one _ _ _) (by unfold maxLen; omega) (by omega) hsz15 ?_; intro Az cz w15 hoz hg15 hat15)
        have hgN : (World.alloc (w7) (.cells #[.slice (some ⟨gb, 0, none⟩) x.n cb] 45)).grownBy w15 (blkOf Af) := hg15
        skip
        replace hob := own_keep hob fun g o e => hgN.block g (own_lt2 (by rw [← e]; exact hob)).2.1 (row_ne_row hob hof (by decide) (by rw [e]; rfl))
        have hG5 := grown_trans hG4 hgN
        clear hg15 hat15 hgN hof hBs hel15
        refine hK.out _ _ hG5 ?_
        clear hK K
        repeat (first
          | (refine tree_skip rfl (by rfl) ?_; simp only [Act.put, List.setIfInBounds_toArray, List.set_cons_zero, List.set_cons_succ])
          | (refine tree_qE rfl (by rfl) ?_; apply Exists.intro; refine ⟨fun w' hc' => ?_, ?_⟩; (focus (go_simp; (try go_bits); (try simp only [↓IntWalk.iteOmega]); with_reducible rfl)); simp only [Act.put, List.setIfInBounds_toArray, List.set_cons_zero, List.set_cons_succ]))
        refine tree_end ?_
        have hGL := hG5
        have hst := Lib.hid (lent7_step hof0 Hgl.out Hrow.out hb hGL Hd.out Hdn.out hob hoz)
        clear hob hoz
        go_wp2
        go_roundw
        case rel => exact ⟨j + 1, by omega, by go_num, hst.out⟩
        case measure => simp [intOf]; omega
      · have hgN := World.grownBy_alloc (wr.drew) (.cells #[.int .u8 167] 5) none
        have hBe : Blk (World.alloc (wr.drew) (.cells #[.int .u8 167] 5)) (wr.heap.size) 5 #[.int .u8 167] := by first | exact Blk.new (wr.drew) 5 #[.int .u8 167] | (have h := Blk.new (wr.drew) 5 #[.int .u8 167]; simp only [World.size_alloc] at h; exact h)
        have pref := hof
        replace hof := own_keep hof fun g o e => hgN.block g (own_lt2 (by rw [← e]; exact hof)).2.1 (by simp)
        go_wp2_with (fail)
        have hG1 := grown_trans hG0 (grown_any hgN)
        refine hK.out _ _ hG1 ?_
        clear hK K
        obtain ⟨Ne, hNe⟩ : ∃ N, (wr.heap.size) = N := ⟨_, rfl⟩
        have hNle : wr.heap.size ≤ wr.heap.size := by first | exact Nat.le_refl _ | exact hG0.size | (have h := hG0.size; simp only [World.size_alloc] at h; exact h)
        clear hNe Ne hgN
        refine tree_e1 (tree_step rfl fun K hK => ?_)
        have hsz5 : w.heap.size ≤ (World.alloc (wr.drew) (.cells #[.int .u8 167] 5)).heap.size := Nat.le_trans hs hG1.size
        go_wp2_with (at_builtin; refine wpList_append_sl rfl _ _ _ rfl Try.u8T rfl (World.ownsRow_nil (World.alloc (wr.drew) (.cells #[.int .u8 167] 5)) w.heap.size _ _) rfl (Hds.out.below (hb.trans (below_grown hG1 hs (fun g e => own_blk1 hof0 g e))) (Nat.le_refl _)) (bytesC_one d) (by unfold maxLen; omega) (by omega) hsz5 ?_; intro Aa ca w5 hoa hg5 hat5)
        simp only [Nat.zero_add, List.nil_append] at hoa ⊢
        have hgN : (World.alloc (wr.drew) (.cells #[.int .u8 167] 5)).grownBy w5 none := hg5
        have hlowa : ∀ g, blkOf Aa = some g → wr.heap.size ≤ g := fun g e => (hat5 g e).elim (fun h => by cases h) (fun h => Nat.le_trans hG1.size h)
        replace hof := own_keep hof fun g o e => hgN.block g (own_lt2 (by rw [← e]; exact hof)).2.1 (by simp)
        replace hBe := hBe.grown hgN (by simp)
        have hG2 := grown_trans hG1 (grown_any hgN)
        clear hg5 hat5 hgN
        refine hK.out _ _ hG2 ?_
        clear hK K
        refine tree_e1 (tree_step rfl fun K hK => ?_)
        have hsz7 : w.heap.size ≤ (w5).heap.size := Nat.le_trans hs hG2.size
        have hel7 : Sl (w5) (w5).heap.size 1 (some ⟨wr.heap.size, 0, none⟩) 1 ([.int .u8 167]) := Sl.blk hBe rfl rfl hBe.lt
        go_wp2_with (at_builtin; refine wpList_append_sl rfl _ _ _ rfl Try.u8T rfl hoa rfl hel7 (b167_one) (by unfold maxLen; omega) (by omega) hsz7 ?_; intro Ab cb w7 hob hg7 hat7)
        have hgN : (w5).grownBy w7 (blkOf Aa) := hg7
        have hlowb : ∀ g, blkOf Ab = some g → wr.heap.size ≤ g := fun g e => (hat7 g e).elim (fun h => hlowa g h) (fun h => Nat.le_trans hG2.size h)
        replace hof := own_keep hof fun g o e => hgN.block g (own_lt2 (by rw [← e]; exact hof)).2.1 (row_ne_row hof hoa (by decide) (by rw [e]; rfl))
        have hG3 := grown_own hG2 hgN (fun g e => .inr (hlowa g e))
        clear hg7 hat7 hgN hoa hBe hel7
        refine hK.out _ _ hG3 ?_
        clear hK K
        obtain ⟨gb, rfl⟩ := own_some hob (by omega)
        have hcap := (own_row hob).2.2.2.1
        have hcapi : (x.n : Int) ≤ cb := by omega
        repeat (first
          | (refine tree_skip rfl (by rfl) ?_; simp only [Act.put, List.setIfInBounds_toArray, List.set_cons_zero, List.set_cons_succ])
          | (refine tree_qE rfl (by rfl) ?_; apply Exists.intro; refine ⟨fun w' hc' => ?_, ?_⟩; (focus (go_simp; (try go_bits); (try simp only [↓IntWalk.iteOmega]); with_reducible rfl)); simp only [Act.put, List.setIfInBounds_toArray, List.set_cons_zero, List.set_cons_succ]))
        refine tree_e1 (tree_step rfl fun K hK => ?_)
        have hgN := World.grownBy_alloc (w7) (.cells #[.slice (some ⟨gb, 0, none⟩) x.n cb] 45) none
        have hBs : Blk (World.alloc (w7) (.cells #[.slice (some ⟨gb, 0, none⟩) x.n cb] 45)) (w7.heap.size) 45 #[.slice (some ⟨gb, 0, none⟩) x.n cb] := by first | exact Blk.new (w7) 45 #[.slice (some ⟨gb, 0, none⟩) x.n cb] | (have h := Blk.new (w7) 45 #[.slice (some ⟨gb, 0, none⟩) x.n cb]; simp only [World.size_alloc] at h; exact h)
        have pref := hof
        have preb := hob
        replace hof := own_keep hof fun g o e => hgN.block g (own_lt2 (by rw [← e]; exact hof)).2.1 (by simp)
        replace hob := own_keep hob fun g o e => hgN.block g (own_lt2 (by rw [← e]; exact hob)).2.1 (by simp)
        go_wp2_with (fail)
        have hG4 := grown_trans hG3 (grown_any hgN)
        refine hK.out _ _ hG4 ?_
        clear hK K
        obtain ⟨Ns, hNs⟩ : ∃ N, (w7.heap.size) = N := ⟨_, rfl⟩
        have hNls : wr.heap.size ≤ w7.heap.size := by first | exact Nat.le_refl _ | exact hG3.size | (have h := hG3.size; simp only [World.size_alloc] at h; exact h)
        clear hNs Ns hgN
        refine tree_e1 (tree_step rfl fun K hK => ?_)
        have hsz15 : w.heap.size ≤ (World.alloc (w7) (.cells #[.slice (some ⟨gb, 0, none⟩) x.n cb] 45)).heap.size := Nat.le_trans hs hG4.size
        have hel15 : Sl (World.alloc (w7) (.cells #[.slice (some ⟨gb, 0, none⟩) x.n cb] 45)) (World.alloc (w7) (.cells #[.slice (some ⟨gb, 0, none⟩) x.n cb] 45)).heap.size 1 (some ⟨w7.heap.size, 0, none⟩) 1 ([.slice (some ⟨gb, 0, none⟩) x.n cb]) := Sl.blk hBs rfl rfl hBs.lt
        go_wp2_with (at_builtin; refine wpList_append_sl rfl _ _ _ rfl Try.stockT rfl hof rfl hel15 (sl_one _ _ _) (by unfold maxLen; omega) (by omega) hsz15 ?_; intro Az cz w15 hoz hg15 hat15)
        have hgN : (World.alloc (w7) (.cells #[.slice (some ⟨gb, 0, none⟩) x.n cb] 45)).grownBy w15 (blkOf Af) := hg15
        skip
        replace hob := own_keep hob fun g o e => hgN.block g (own_lt2 (by rw [← e]; exact hob)).2.1 (row_ne_row hob hof (by decide) (by rw [e]; rfl))
        have hG5 := grown_trans hG4 hgN
        clear hg15 hat15 hgN hof hBs hel15
        refine hK.out _ _ hG5 ?_
        clear hK K
        repeat (first
          | (refine tree_skip rfl (by rfl) ?_; simp only [Act.put, List.setIfInBounds_toArray, List.set_cons_zero, List.set_cons_succ])
          | (refine tree_qE rfl (by rfl) ?_; apply Exists.intro; refine ⟨fun w' hc' => ?_, ?_⟩; (focus (go_simp; (try go_bits); (try simp only [↓IntWalk.iteOmega]); with_reducible rfl)); simp only [Act.put, List.setIfInBounds_toArray, List.set_cons_zero, List.set_cons_succ]))
        refine tree_end ?_
        have hGL := hG5
        have hst := Lib.hid (lent7_step hof0 Hgl.out Hrow.out hb hGL Hd.out Hdn.out hob hoz)
        clear hob hoz
        go_wp2
        go_roundw
        case rel => exact ⟨j + 1, by omega, by go_num, hst.out⟩
        case measure => simp [intOf]; omega
    · obtain rfl : j = sn := by omega
      have hki : ¬ (j : Int) < j := by omega
      have hg1 := World.grownBy_alloc wr (.cells #[.int .u8 113] 5) none
      have hK := Blk.new wr 5 #[.int .u8 113]
      have hof1 := own_keep hof fun g o e => hg1.block g (own_lt2 (by rw [← e]; exact hof)).2.1 (by simp)
      have hb1 := hb.trans (below_grown hg1 hs (fun g e => by cases e))
      have hs1 := hb1.size
      have hlt9 : ∀ g, blkOf Af = some g → g < wr.heap.size := fun g hg => by
        rcases Af with _ | ⟨b', o', s'⟩
        · cases hg
        · simp only [blkOf, Option.some.injEq] at hg
          subst hg
          exact (own_lt2 hof).2.1
      have Hlt9 := Lib.hid hlt9
      have Hg1 := Lib.hid hg1; have HK := Lib.hid hK; have Hof := Lib.hid hof
      clear hlt9 hg1 hK hof
      go_wp2_with (at_builtin; refine wpList_append_one (w := wr.alloc (.cells #[.int .u8 113] 5)) rfl _ _ _ rfl Try.stockT rfl hof1 #[.slice (some ⟨wr.heap.size, 0, none⟩) 1 1] rfl (by first | rfl | simp) rfl (sl_one _ _ _) (by unfold maxLen; omega) (by omega) hs1 ?_; intro g6 c6 w6 ho6 hg6 hat6; have hcap := (own_row ho6).2.2.2.1; have hcapi : (j : Int) ≤ c6 := by omega)
      go_ret
      have hblk := HK.out.grown hg6 (fun e => by have := Hlt9.out _ e.symm; omega)
      have hrow6 : ∀ (k : Nat) (f : SC) (d : ByteArray), gs[k]? = some f → sd[k]? = some d → f.n = d.size ∧ ∃ g, f.A = some ⟨g, 0, none⟩ ∧ w6.ownsRow w.heap.size 5 1 (.slice (some ⟨g, 0, none⟩) (f.n + 1) f.c) (f.n + 1) (bytesC d ++ [.int .u8 167]) := fun k f d hf hd => by
        obtain ⟨h1, g, h2, h3⟩ := Hrow.out k f d hf hd
        have h4 := own_keep h3 fun g' o e => Hg1.out.block g' (own_lt2 (by rw [← e]; exact h3)).2.1 (by simp)
        exact ⟨h1, g, h2, own_keep h4 fun g' o e => hg6.block g' (own_lt2 (by rw [← e]; exact h4)).2.1 (row_ne_row h4 hof1 (by decide) (by rw [e]; rfl))⟩
      have hlg : (gs.flatMap SC.list).length = j * 1 := by rw [flat_length SC.len, Hgl.out]
      refine ⟨some ⟨g6, 0, none⟩, c6, rfl, gs, ⟨hcap, ⟨g6, wr.heap.size, rfl, (own_row ho6).2.2.1, hblk.lt, ?_, hblk.cell 0⟩, fun k x hk => ?_⟩, ⟨Hgl.out, ?_, HS.out.dlen, fun k x d hx hd => ?_, by omega⟩, hb1.trans (below_grown hg6 hs1 (fun g e => own_blk1 hof1 g e))⟩
      · have h := (own_row ho6).1 j (.slice (some ⟨wr.heap.size, 0, none⟩) 1 1) (by rw [List.getElem?_append_right (by omega), hlg, Nat.mul_one, Nat.sub_self]; rfl)
        rwa [Nat.zero_add] at h
      · obtain ⟨d, hd⟩ : ∃ d, sd[k]? = some d := ⟨_, List.getElem?_eq_getElem (by have := (List.getElem?_eq_some_iff.1 hk).1; have := HS.out.dlen; have := Hgl.out; omega)⟩
        obtain ⟨h1, g, h2, h3⟩ := hrow6 k x d hk hd
        have h4 := (own_row h3).1 x.n (.int .u8 167) (by rw [List.getElem?_append_right (by rw [bytesC_length]; omega), bytesC_length, h1, Nat.sub_self]; rfl)
        rw [Nat.zero_add] at h4
        exact ⟨(own_row h3).2.2.2.1, g, h2, (own_row h3).2.2.1, h4⟩
      · have hS := (Sl.of_own ho6).first (k := j) (by omega)
        rwa [List.take_left' hlg] at hS
      · obtain ⟨h1, g, h2, h3⟩ := hrow6 k x d hx hd
        have hS3 := (Sl.of_own h3).first (k := x.n) (by omega)
        rw [List.take_left' (by rw [bytesC_length, h1, Nat.mul_one])] at hS3
        exact ⟨h1.symm, by rw [h2]; exact hS3⟩
end Go.Proofs.Ytcnpncieibmngaa

namespace Go.Proofs.Ytcnpncieibmngaa
open Go.RowKit

set_option maxRecDepth 100000 in
set_option maxHeartbeats 8000000 in
theorem stay7_yes (A SA : Option Addr) (n c sc : Nat) (gs ss : List SC) (sd : List ByteArray) (w : World) (hL : Lent7At w A n c gs) (hG : StockAt w A n gs sd) (hS : StockAt w SA n ss sd) (hn1 : n ≤ 2000000) (hsm : ∀ x ∈ ss, x.n ≤ 2000000) :
    Calls Try.prog 23 #[.slice A n c, .slice SA n sc] w fun e w' => e = .returned (.bool true) ∧ Below w.heap.size w w' := by
  have HL := Lib.hid hL; have HG := Lib.hid hG; have HS := Lib.hid hS; have HSM := Lib.hid hsm
  have hcc := hL.c
  obtain ⟨g, b, rfl, hgl, hbl, hl1, hl2⟩ := hL.last
  have hci : (n : Int) + 1 ≤ c := by omega
  have hgsl := hG.sl
  have hssl := hS.sl
  have HGS := Lib.hid hgsl; have HSS := Lib.hid hssl
  clear hL hG hS hsm hgsl hssl
  go_enter Try.func23, Try.ntmps23
  go_wp2
  go_loopw [6] (fun v wr => ∃ j : Nat, j ≤ n ∧ v = .int .i64 j ∧ Below w.heap.size w wr) (fun v _ => n - (intOf v).toNat)
  case atStart => exact ⟨0, Nat.zero_le _, rfl, Below.refl _ _⟩
  case round =>
    clear hl1 hl2
    obtain ⟨j, hj, rfl, hb⟩ := hrel
    have hs := hb.size
    by_cases hlt : j < n
    · have hki : (j : Int) < n := by omega
      obtain ⟨xb, xo, x, rfl, hxb, hx, hc⟩ := (HSS.out.below hb (Nat.le_refl _)).get SC.len HS.out.len hlt
      have c0 := hc 0 _ rfl
      obtain ⟨yb, yo, y, hy0, hyb, hy, hc2⟩ := (HGS.out.below hb (Nat.le_refl _)).get SC.len HG.out.len hlt
      injection hy0 with hy0
      injection hy0 with e1 e2
      subst e1 e2
      have d0 := hc2 0 _ rfl
      simp only [Nat.add_zero, Nat.mul_one, Nat.zero_add] at c0 d0
      obtain ⟨d, hd⟩ : ∃ d, sd[j]? = some d := ⟨_, List.getElem?_eq_getElem (by rw [HS.out.dlen]; exact hlt)⟩
      obtain ⟨hdn, hds⟩ := HS.out.dat j x d hx hd
      obtain ⟨hen, hes⟩ := HG.out.dat j y d hy hd
      obtain ⟨hyc, b2, hyA, hb2l, hyl⟩ := HL.out.data j y hy
      obtain ⟨yA, yn, yc⟩ := y
      simp only at hen hes hyc hyA hyl d0
      subst hyA
      have hxy : yn = x.n := by rw [← hen, hdn]
      subst hxy
      have hxn : x.n ≤ 2000000 := HSM.out x (List.mem_of_getElem? hx)
      have hyi : (x.n : Int) + 1 ≤ yc := by omega
      have l0 := (hb.cell (p := ⟨b2, x.n, none⟩) hb2l).trans hyl
      have hxw : xb < wr.heap.size := by omega
      have hgw : g < wr.heap.size := by omega
      have hbw : b2 < wr.heap.size := by omega
      have SA' := Lib.hid (hds.below hb (Nat.le_refl _))
      have SB' := Lib.hid (hes.below hb (Nat.le_refl _))
      have NA' := Lib.hid hdn
      have NB' := Lib.hid hen
      have heq : (d.toList != d.toList) = false := by simp
      clear hc hc2 hx hy hd hdn hen hds hes hyl
      go_upto_region 8 with (fail)
      refine wp_region_ordB (none) [(0, true), (1, true), (2, true), (3, true), (4, true), (5, true), (6, true), (7, true), (8, true), (9, true), (10, true), (11, true), (12, true), (13, true), (14, true), (15, true), (16, true), (17, true), (18, true), (19, true), (20, true), (21, true), (22, true), (23, true)] (by kernel_rfl) (by kernel_rfl) fun hG0 => ?_
      repeat (first
        | (refine ord_skipB rfl (by rfl) ?_; simp only [Act.put, List.setIfInBounds_toArray, List.set_cons_zero, List.set_cons_succ])
        | (first | (refine ord_qH rfl (by rfl) (fun w' hh => exec_conv rfl rfl (SB'.out.held hs rfl hh) NB'.out) ?_; simp only [Act.put, List.setIfInBounds_toArray, List.set_cons_zero, List.set_cons_succ]) | (refine ord_qH rfl (by rfl) (fun w' hh => exec_conv rfl rfl (SA'.out.held hs rfl hh) NA'.out) ?_; simp only [Act.put, List.setIfInBounds_toArray, List.set_cons_zero, List.set_cons_succ]))
        | (refine ord_qE rfl (by rfl) ?_; apply Exists.intro; refine ⟨fun w' hc' => ?_, ?_⟩; (focus (go_simp; (try go_bits); (try simp only [↓IntWalk.iteOmega]); with_reducible rfl)); simp only [Act.put, List.setIfInBounds_toArray, List.set_cons_zero, List.set_cons_succ]))
      refine ord_end ?_
      replace hb := hb.trans (below_grown hG0 hb.size (fun g e => by cases e))
      clear hG0 c0 d0 l0
      go_wp2
      go_roundw
      case rel => exact ⟨j + 1, by omega, by go_num, hb⟩
      case measure => simp [intOf]; omega
    · obtain rfl : j = n := by omega
      have hki : ¬ (j : Int) < j := by omega
      go_wp2
      go_ret
      exact ⟨rfl, hb⟩
end Go.Proofs.Ytcnpncieibmngaa
