/- match.names: the paths of each file, and the file of each path. match.names, walked. -/
import Derived.Test.YtcnpncieibmngaaMatchTU
import Derived.Test.YtcnpncieibmngaaCanonP

namespace Go.Proofs.Ytcnpncieibmngaa
open Go.RowKit

theorem Try.strsT : ElemT Try.prog 40 9 1 16 := ElemT.mk' (z := .string ByteArray.empty) Try.underlying40 (by kernel_rfl) rfl (by decide)
theorem own_frozen' {w : World} {base e sz g n c : Nat} {L : List Value} (h : w.ownsRow base e sz (.slice (some ⟨g, 0, none⟩) n c) n L) (i : Nat) : w.frozen? ⟨g, i, none⟩ = false := by
  rcases h.2 with ⟨h', _⟩ | ⟨g', cap, cur, hv, _, hh, _⟩
  · cases h'
  · injection hv with hv
    injection hv with hv
    injection hv with hv
    rw [hv]
    exact Blk.frozen hh i
theorem fileOf_snoc {l : List Node} {x : Node} (hR : Rises (l ++ [x])) (p : ByteArray) : fileOfP (l ++ [x]) p = if p = x.path then (if x.file < 0 then none else some x.file.toNat) else fileOfP l p := by
  unfold fileOfP
  rw [List.find?_append]
  by_cases e : p = x.path
  · subst e
    rw [if_pos rfl]
    have : l.find? (fun y => decide (y.path = x.path)) = none := by
      rw [List.find?_eq_none]
      intro y hy h
      rw [decide_eq_true_eq] at h
      have := (List.pairwise_append.1 hR).2.2 y hy x (by simp)
      rw [show pathL y = pathL x by unfold pathL; rw [h]] at this
      exact List.lt_irrefl _ this
    rw [this]
    simp
  · rw [if_neg e]
    have : ([x] : List Node).find? (fun y => decide (y.path = p)) = none := by simp; exact fun h => e h.symm
    rw [this, Option.or_none]
theorem names_snoc (l : List Node) (x : Node) (f : Nat) : namesP (l ++ [x]) f = namesP l f ++ if x.file = (f : Int) then [x.path] else [] := by
  unfold namesP
  rw [picks_append]
  congr 1
  split
  · rename_i h; simp [picks, namesF, h]
  · rename_i h; simp [picks, namesF, h]
/-- Rows of texts: a slice of slices of strings that the call owns. -/
structure OfAt (W : World) (base : Nat) (A : Option Addr) (n c : Nat) (rs : List SC) (N : Nat → List ByteArray) : Prop where
  len : rs.length = n
  own : W.ownsRow base 40 1 (.slice A n c) n (rs.flatMap SC.list)
  row : ∀ (k : Nat) (x : SC), rs[k]? = some x → x.n = (N k).length ∧ W.ownsRow base 9 1 (.slice x.A x.n x.c) x.n ((N k).flatMap strOf)
  apart : ∀ (i j : Nat) (x y : SC), rs[i]? = some x → rs[j]? = some y → i ≠ j → ∀ b, blkOf x.A = some b → blkOf y.A ≠ some b
theorem OfAt.fr {W W' : World} {base n c B : Nat} {A : Option Addr} {rs : List SC} {N : Nat → List ByteArray} {xs : List Nat} (h : OfAt W base A n c rs N) (hf : FrM B xs W W') (hx : ∀ g ∈ xs, ∃ ms ck, W.heap[g]? = some (.map ms ck)) : OfAt W' base A n c rs N := by
  have key : ∀ {e sz n c : Nat} {A : Option Addr} {L : List Value}, W.ownsRow base e sz (.slice A n c) n L → ∀ g, blkOf A = some g → g ∉ xs := fun {e sz n c A L} ho g hg hm => by
    obtain ⟨ms, ck, hmm⟩ := hx g hm
    rcases ho.2 with ⟨h', _⟩ | ⟨g', cap, cur, hv, _, hh, _⟩
    · injection h' with h'; rw [h'] at hg; cases hg
    · injection hv with hv
      rw [hv] at hg
      injection hg with hg
      rw [← hg, hh] at hmm
      cases hmm
  exact ⟨h.len, hf.own h.own (by decide) (key h.own), fun k x hk => ⟨(h.row k x hk).1, hf.own (h.row k x hk).2 (by decide) (key (h.row k x hk).2)⟩, h.apart⟩
/-- One text more in a row. -/
theorem OfAt.push {W W' : World} {base n c : Nat} {g : Nat} {rs : List SC} {N N' : Nat → List ByteArray} (h : OfAt W base (some ⟨g, 0, none⟩) n c rs N) {f : Nat} {y : SC} (hy : rs[f]? = some y) {p : ByteArray} (hN : ∀ k, N' k = if k = f then N f ++ [p] else N k) {g2 c2 : Nat} (hG : W.grownBy W' (blkOf y.A))
    (ho : W'.ownsRow base 9 1 (.slice (some ⟨g2, 0, none⟩) (y.n + 1) c2) (y.n + 1) ((N f).flatMap strOf ++ [.string p])) (hat : blkOf y.A = some g2 ∨ W.heap.size ≤ g2) :
    OfAt (W'.setCell ⟨g, f, none⟩ (.slice (some ⟨g2, 0, none⟩) (y.n + 1) c2)) base (some ⟨g, 0, none⟩) n c (rs.set f ⟨some ⟨g2, 0, none⟩, y.n + 1, c2⟩) N' := by
  have hfl : f < rs.length := (List.getElem?_eq_some_iff.1 hy).1
  have hrow := h.row f y hy
  have hneg : ∀ {e n c : Nat} {A : Option Addr} {L : List Value}, e ≠ 40 → W'.ownsRow base e 1 (.slice A n c) n L → ∀ o g', A = some ⟨g', o, none⟩ → g' ≠ g := fun {e n c A L} he ho' o g' hA e2 => by
    have h1 := own_keep h.own fun q o e => hG.block q (own_lt2 (by rw [← e]; exact h.own)).2.1 (row_ne_row h.own hrow.2 (by decide) (by rw [e]; rfl))
    exact row_ne_row ho' h1 he (by rw [hA]; rfl) (by rw [e2]; rfl)
  refine ⟨by rw [List.length_set]; exact h.len, ?_, fun k x hk => ?_, fun i j x z hi hj hij b hb1 hb2 => ?_⟩
  · have h1 := own_keep h.own fun q o e => hG.block q (own_lt2 (by rw [← e]; exact h.own)).2.1 (row_ne_row h.own hrow.2 (by decide) (by rw [e]; rfl))
    have h2 := setc_own (i := f) h1 (.slice (some ⟨g2, 0, none⟩) (y.n + 1) c2)
    have h3 := flat_setj (j := 0) SC.len (x' := ⟨some ⟨g2, 0, none⟩, y.n + 1, c2⟩) hy (by omega) rfl (v := .slice (some ⟨g2, 0, none⟩) (y.n + 1) c2)
    rw [Nat.mul_one, Nat.add_zero] at h3
    rw [← h3]
    exact h2
  · by_cases e : k = f
    · subst e
      rw [List.getElem?_set_self hfl] at hk
      injection hk with hk
      subst hk
      rw [hN, if_pos rfl]
      refine ⟨by rw [List.length_append, ← hrow.1]; rfl, ?_⟩
      rw [List.flatMap_append]
      refine own_keep ho fun q o e => ?_
      exact heap_setCell_other _ ⟨g, k, none⟩ q _ (hneg (by decide) ho o q e)
    · rw [List.getElem?_set_ne (fun h => e h.symm)] at hk
      rw [hN, if_neg e]
      have hr := h.row k x hk
      refine ⟨hr.1, ?_⟩
      have h1 : W'.ownsRow base 9 1 (.slice x.A x.n x.c) x.n ((N k).flatMap strOf) := own_keep hr.2 fun q o e2 => hG.block q (own_lt2 (by rw [← e2]; exact hr.2)).2.1 fun e3 => h.apart k f x y hk hy e q (by rw [e2]; rfl) e3.symm
      exact own_keep h1 fun q o e2 => heap_setCell_other _ ⟨g, f, none⟩ q _ (hneg (by decide) h1 o q e2)
  · have key : ∀ k x b, k ≠ f → rs[k]? = some x → blkOf x.A = some b → g2 ≠ b := fun k x b hkf hk hb e => by
      have hr := h.row k x hk
      obtain ⟨A, nx, cx⟩ := x
      simp only at hb hr
      rcases hat with h1 | h1
      · exact h.apart k f _ y hk hy hkf b hb (by rw [h1, e])
      · cases A with
        | none => cases hb
        | some a =>
          obtain ⟨b', o', s'⟩ := a
          simp only [blkOf, Option.some.injEq] at hb
          subst hb
          have := (own_lt2 hr.2).2.1
          omega
    by_cases e1 : i = f
    · subst e1
      rw [List.getElem?_set_self hfl] at hi
      injection hi with hi
      subst hi
      rw [List.getElem?_set_ne hij] at hj
      injection hb1 with hb1
      exact key j z b (fun h => hij h.symm) hj hb2 hb1
    · rw [List.getElem?_set_ne (fun h => e1 h.symm)] at hi
      by_cases e2 : j = f
      · subst e2
        rw [List.getElem?_set_self hfl] at hj
        injection hj with hj
        subst hj
        injection hb2 with hb2
        exact key i x b e1 hi hb1 hb2
      · rw [List.getElem?_set_ne (fun h => e2 h.symm)] at hj
        exact h.apart i j x z hi hj hij b hb1 hb2
end Go.Proofs.Ytcnpncieibmngaa

namespace Go.Proofs.Ytcnpncieibmngaa
open Go.RowKit

def NamesRes (t : TV) (w : World) (e : Ending) (w' : World) : Prop :=
  ∃ (g m : Nat) (rs : List SC), e = .returned (.tuple #[.slice (some ⟨g, 0, none⟩) t.fn t.fn, .map (some m)]) ∧ OfAt w' w.heap.size (some ⟨g, 0, none⟩) t.fn t.fn rs (namesP t.nodes) ∧ IdxAt w' m 256 (fileOfP t.nodes) ∧ w.heap.size ≤ m ∧ Below w.heap.size w w'
/-- What holds ahead of each round. -/
structure NamesAt (w wr : World) (tv : Array Value) (l : List Node) (fn g m k : Nat) : Prop where
  of_ : ∃ rs, OfAt wr w.heap.size (some ⟨g, 0, none⟩) fn fn rs (namesP l)
  idx : IdxAt wr m k (fileOfP l)
  tb : Blk wr w.heap.size 25 tv
  m0 : w.heap.size ≤ m
  below : Below w.heap.size w wr
theorem NamesAt.still {w wr W : World} {tv : Array Value} {l : List Node} {fn g m k : Nat} (h : NamesAt w wr tv l fn g m k) (hg : wr.grownBy W none) : NamesAt w W tv l fn g m k := by
  have hf := FrM.of_none hg h.below.size []
  obtain ⟨rs, ho⟩ := h.of_
  exact ⟨⟨rs, ho.fr hf (by simp)⟩, h.idx.fr hf (by simp), hf.blk h.tb (by decide) (by simp), h.m0, h.below.trans hf.below⟩
theorem fileOf_absent {l : List Node} {x : Node} (hR : Rises (l ++ [x])) : fileOfP l x.path = none := by
  unfold fileOfP
  have : l.find? (fun y => decide (y.path = x.path)) = none := by
    rw [List.find?_eq_none]
    intro y hy h
    rw [decide_eq_true_eq] at h
    have := (List.pairwise_append.1 hR).2.2 y hy x (by simp)
    rw [show pathL y = pathL x by unfold pathL; rw [h]] at this
    exact List.lt_irrefl _ this
  rw [this]
theorem NamesAt.dir {w wr : World} {tv : Array Value} {l : List Node} {fn g m k : Nat} {x : Node} (h : NamesAt w wr tv l fn g m k) (hR : Rises (l ++ [x])) (hx : x.file = -1) : NamesAt w wr tv (l ++ [x]) fn g m (k + 1) := by
  obtain ⟨rs, ho⟩ := h.of_
  obtain ⟨es, h1, h2, h3⟩ := h.idx
  have e : namesP (l ++ [x]) = namesP l := by
    funext f
    rw [names_snoc, if_neg (by omega), List.append_nil]
  refine ⟨⟨rs, by rw [e]; exact ho⟩, ⟨es, h1, by omega, fun p => ?_⟩, h.tb, h.m0, h.below⟩
  rw [h3, fileOf_snoc hR]
  by_cases e : p = x.path
  · rw [if_pos e, if_pos (by omega), e, fileOf_absent hR]
  · rw [if_neg e]
theorem NamesAt.file {w wr W1 W2 : World} {tv : Array Value} {l : List Node} {fn g m k : Nat} {x : Node} (h : NamesAt w wr tv l fn g m k) (hR : Rises (l ++ [x])) {f : Nat} (hx : x.file = (f : Int)) {rs : List SC} {y : SC} (ho : OfAt wr w.heap.size (some ⟨g, 0, none⟩) fn fn rs (namesP l)) (hy : rs[f]? = some y) {g2 c2 : Nat} (hG : wr.grownBy W1 (blkOf y.A))
    (ho2 : W1.ownsRow w.heap.size 9 1 (.slice (some ⟨g2, 0, none⟩) (y.n + 1) c2) (y.n + 1) ((namesP l f).flatMap strOf ++ [.string x.path])) (hat : blkOf y.A = some g2 ∨ wr.heap.size ≤ g2)
    {es : List (ByteArray × Value)} (h1 : MapV strK wr m es) (h2 : es.length ≤ k) (h3 : ∀ p, getV es p = (fileOfP l p).map fun (k : Nat) => Value.int .i64 k)
    (hm : MapV strK W2 m (putV es x.path (.int .i64 f))) (hg2 : (W1.setCell ⟨g, f, none⟩ (.slice (some ⟨g2, 0, none⟩) (y.n + 1) c2)).grownBy W2 (some m)) (hgb : w.heap.size ≤ g) : NamesAt w W2 tv (l ++ [x]) fn g m (k + 1) := by
  have hp := ho.push hy (p := x.path) (N' := namesP (l ++ [x])) (fun j => by
    rw [names_snoc, hx]
    by_cases e : j = f
    · subst e; rw [if_pos rfl, if_pos rfl]
    · rw [if_neg (by omega), if_neg e, List.append_nil]) hG ho2 hat
  have hmm : ∃ ms ck, (W1.setCell ⟨g, f, none⟩ (.slice (some ⟨g2, 0, none⟩) (y.n + 1) c2)).heap[m]? = some (.map ms ck) := by
    obtain ⟨ms, ck, hmm⟩ := h1.isMap
    have hrow := (ho.row f y hy).2
    have n1 : some m ≠ blkOf y.A := fun e => by
      rcases hrow.2 with ⟨h', _⟩ | ⟨g', cap, cur, hv, _, hh, _⟩
      · injection h' with h'; rw [h'] at e; cases e
      · injection hv with hv
        rw [hv] at e
        injection e with e
        rw [e, hh] at hmm
        cases hmm
    have n2 : m ≠ g := fun e => by
      obtain ⟨g', cap, cur, hv, _, hh, _⟩ := ho.own.2.resolve_left (fun h => by cases h.1)
      injection hv with hv
      injection hv with hv
      injection hv with hv
      rw [e, hv, hh] at hmm
      cases hmm
    refine ⟨ms, ck, ?_⟩
    rw [heap_setCell_other _ ⟨g, f, none⟩ m _ n2, hG.block m h1.lt n1]
    exact hmm
  have hb1 : Below w.heap.size w (W1.setCell ⟨g, f, none⟩ (.slice (some ⟨g2, 0, none⟩) (y.n + 1) c2)) :=
    (h.below.trans (below_grown hG h.below.size (fun q e => own_blk1 (ho.row f y hy).2 q e))).setCell (p := ⟨g, f, none⟩) hgb _
  have hf2 : FrM w.heap.size [m] (W1.setCell ⟨g, f, none⟩ (.slice (some ⟨g2, 0, none⟩) (y.n + 1) c2)) W2 := FrM.of_in hg2 hb1.size h.m0 (by simp)
  refine ⟨⟨_, hp.fr hf2 (by simp only [List.mem_singleton]; rintro q rfl; exact hmm)⟩, ⟨_, hm, Nat.le_trans (getV_len _ _) (by omega), fun p => ?_⟩, ?_, h.m0, hb1.trans hf2.below⟩
  · rw [putV_get h1.1, fileOf_snoc hR, h3]
    by_cases e : p = x.path
    · rw [if_pos e, if_pos e, if_neg (by omega), hx]; rfl
    · rw [if_neg e, if_neg e]
  · have ht := h.tb
    have htm : w.heap.size ≠ m := Blk.ne_map ht h1
    have htg : w.heap.size ≠ g := fun e => by
      obtain ⟨g', cap, cur, hv, _, hh, _⟩ := ho.own.2.resolve_left (fun h => by cases h.1)
      injection hv with hv
      injection hv with hv
      injection hv with hv
      unfold Blk at ht
      rw [e, hv, hh] at ht
      injection ht with ht
      injection ht with _ ht
      exact absurd ht (by decide)
    exact ((ht.grown hG (ht.ne_row (ho.row f y hy).2 (by decide))).set_ne _ _ htg).grown hg2 (fun e => htm (by injection e))
set_option maxRecDepth 100000 in
set_option maxHeartbeats 8000000 in
theorem names_any (t : TV) (w : World) (h : TreeAt w t) (hG : Good t) : Calls Try.prog 35 #[t.val] w (NamesRes t w) := by
  have hnn := hG.nn
  have hfn := hG.fn
  have hR := hG.rises
  have hkind := hG.kind
  have hnl := h.nl
  have hns := h.ns
  clear hG h
  obtain ⟨nodes, files, NA, nn, nc, FA, fn, fc⟩ := t
  simp only at hnn hfn hR hkind hnl hns
  have HR := Lib.hid hR; have HK := Lib.hid hkind; have Hn := Lib.hid hnl; have HS := Lib.hid hns
  clear hR hkind hnl hns
  have hmm := @run_makeMap Try.prog
  have hB := Blk.new w 25 #[.slice NA nn nc, .slice FA fn fc]
  have hb := (Below.refl w.heap.size w).alloc (Nat.le_refl _) (.cells #[.slice NA nn nc, .slice FA fn fc] 25)
  have b0 := hB.cell 0; have b1 := hB.cell 1
  have hbs := hb.size
  unfold TV.val
  go_enter Try.func35, Try.ntmps35
  go_upto_region 2 with (refine wpList_make_zero rfl _ _ rfl Try.underlying73 (z := .slice none 0 0) (sz := 1) (by_ := 24) (by kernel_rfl) rfl (by omega) SC.list (⟨none, 0, 0⟩ : SC) rfl (n := fn) rfl rfl (by omega) (by unfold maxLen; omega) hbs ?_; intro w1 ho1 hg1)
  rw [World.size_alloc] at ho1
  obtain ⟨g, hgE⟩ : ∃ g, w.heap.size + 1 = g := ⟨_, rfl⟩
  obtain ⟨m, hmE⟩ : ∃ m, w1.heap.size = m := ⟨_, rfl⟩
  have hgb : w.heap.size ≤ g := by omega
  have h0 : NamesAt w (w1.alloc (.map #[] 0)) #[.slice NA nn nc, .slice FA fn fc] [] fn g m 0 := by
    have hb1 := hb.trans (below_grown hg1 hb.size (fun q e => by cases e))
    have hfa := FrM.of_none (World.grownBy_alloc w1 (.map #[] 0) none) hb1.size []
    have hof : OfAt w1 w.heap.size (some ⟨g, 0, none⟩) fn fn (List.replicate fn ⟨none, 0, 0⟩) (namesP []) := by
      rw [hgE] at ho1
      refine ⟨List.length_replicate, ho1, fun k x hk => ?_, fun i j x y hi hj _ b hb' => ?_⟩
      · rw [List.getElem?_replicate] at hk
        split at hk
        · injection hk with hk; subst hk; exact ⟨rfl, World.ownsRow_nil _ _ _ _⟩
        · cases hk
      · rw [List.getElem?_replicate] at hi
        split at hi
        · injection hi with hi; subst hi; cases hb'
        · cases hi
    refine ⟨⟨_, hof.fr hfa (by simp)⟩, ⟨[], hmE ▸ MapV.new w1, Nat.le_refl _, fun p => rfl⟩, ((hB.grown hg1 (by simp)).alloc _), hmE ▸ hb1.size, hb1.alloc hb1.size _⟩
  rw [hgE, hmE]
  have H0 := Lib.hid h0
  clear h0 ho1 hg1 hgE hmE hB hb hbs hmm
  have hNB := H0.out.tb
  have d0 := hNB.cell 0; have d1 := hNB.cell 1
  clear b0 b1
  go_wp2
  go_loopw [14] (fun i wr => ∃ k : Nat, k ≤ nn ∧ i = .int .i64 k ∧ NamesAt w wr #[.slice NA nn nc, .slice FA fn fc] (nodes.take k) fn g m k) (fun i _ => nn - (intOf i).toNat)
  case atStart => exact ⟨0, Nat.zero_le _, rfl, by rw [List.take_zero]; exact H0.out⟩
  case round =>
    clear H0 hNB d0 d1
    obtain ⟨k, hk, rfl, hN⟩ := hrel
    by_cases hlt : k < nn
    · have hki : (k : Int) < nn := by omega
      obtain ⟨xb, xo, x, rfl, hxb, hx, hcx⟩ := (HS.out.keep (Nat.le_refl _) hN.below.block).get Node.len Hn.out hlt
      have c0 := hcx 0 _ rfl
      have c1 := hcx 1 _ rfl
      have c2 := hcx 2 _ rfl
      simp only [Nat.add_zero] at c0 c1 c2
      have hts := take_snoc' hx
      have hRk : Rises (nodes.take k ++ [x]) := by rw [← hts]; exact HR.out.sublist (List.take_sublist _ _)
      have hN1 := hN.still (World.grownBy_alloc wr (.cells #[.string x.path, .int .i64 x.file, .int .i64 x.mode] 44) none)
      have hkx := HK.out x (List.mem_of_getElem? hx)
      have Hts := Lib.hid hts; have HRk := Lib.hid hRk; have HN1 := Lib.hid hN1
      have hws := hN.below.size
      clear hts hRk hN1 hcx hx hN
      rcases hkx with ⟨hf, hz⟩ | ⟨hf0, hf1, hz⟩ <;> clear hz
      · rw [hf] at c1
        have HF := Lib.hid hf; clear hf
        rw [HF.out] at HN1
        go_wp2
        go_roundw
        case rel => exact ⟨k + 1, by omega, by go_num, by rw [Hts.out]; exact HN1.out.dir HRk.out HF.out⟩
        case measure => simp [intOf]; omega
      · obtain ⟨f, hf⟩ := Int.eq_ofNat_of_zero_le hf0
        rw [hf] at c1 hf0 hf1
        have HF := Lib.hid hf; clear hf
        rw [HF.out] at HN1
        have hxp := x.hp
        have hB6 := Blk.new wr 44 #[.string x.path, .int .i64 (f : Int), .int .i64 x.mode]
        go_upto_region 6 with (fail)
        obtain ⟨W1, hW1⟩ : ∃ W, wr.alloc (.cells #[.string x.path, .int .i64 (f : Int), .int .i64 x.mode] 44) = W := ⟨_, rfl⟩
        obtain ⟨nb, hnb⟩ : ∃ b, wr.heap.size = b := ⟨_, rfl⟩
        rw [hW1] at hB6 HN1 ⊢
        rw [hnb] at hB6 ⊢
        clear hW1 hnb c0 c1 c2 hws
        obtain ⟨rs, ho⟩ := HN1.out.of_
        obtain ⟨es, hm1, hm2, hm3⟩ := HN1.out.idx
        have hfl : f < fn := by omega
        have hfi : (f : Int) < fn := by omega
        obtain ⟨y, hy⟩ : ∃ y, rs[f]? = some y := ⟨_, List.getElem?_eq_getElem (by rw [ho.len]; exact hfl)⟩
        have hrow := ho.row f y hy
        obtain ⟨yA, yn, yc⟩ := y
        simp only at hrow
        have hyn : yn ≤ 256 := by
          have := hrow.1
          have h2 := picks_len (namesF (f : Int)) (nodes.take k)
          unfold namesP at this
          rw [List.length_take] at h2
          omega
        have hval : (rs.flatMap SC.list)[f]? = some (.slice yA yn yc) := by
          have := flat_get SC.len hy (j := 0) (by omega)
          rw [Nat.mul_one, Nat.add_zero] at this
          exact this
        have k0 := (own_row ho.own).1 f _ hval
        rw [Nat.zero_add] at k0
        have n0 := hB6.cell 0; have n1 := hB6.cell 1
        have hneN : ¬ some nb = blkOf yA := hB6.ne_row hrow.2 (by decide)
        have hneG : ¬ some g = blkOf yA := row_ne_row ho.own hrow.2 (by decide) rfl
        have hnbg : nb ≠ g := fun e => hB6.ne_row ho.own (by decide) (by rw [e]; rfl)
        have hgl : g < W1.heap.size := (own_lt2 ho.own).2.1
        have hnl : nb < W1.heap.size := hB6.lt
        have hs1 := HN1.out.below.size
        have Ho := Lib.hid ho; have Hy := Lib.hid hy; have Hrow := Lib.hid hrow; have Hm1 := Lib.hid hm1; have Hm3 := Lib.hid hm3
        clear ho hy hrow hm1 hm3 hval
        refine wp_region_ordG (blkOf yA) [(0, true), (1, true), (2, true), (3, true), (4, true), (5, true), (6, true), (7, true), (8, true), (9, true), (10, false), (11, false), (12, true)] 13 (by kernel_rfl) (by kernel_rfl) fun hG0 => ?_
        repeat (first
          | (refine ord_skipB rfl (by rfl) ?_; simp only [Act.put, List.setIfInBounds_toArray, List.set_cons_zero, List.set_cons_succ])
          | (refine ord_qE rfl (by rfl) ?_; apply Exists.intro; refine ⟨fun w' hc' => ?_, ?_⟩; (focus (go_simp; (try go_bits); (try simp only [↓IntWalk.iteOmega]); with_reducible rfl)); simp only [Act.put, List.setIfInBounds_toArray, List.set_cons_zero, List.set_cons_succ]))
        refine ord_eB rfl fun K hK => ?_
        go_wp2_with (fail)
        have hG1 := grown_trans hG0 (World.grownBy_alloc W1.drew (.cells #[.string x.path] 9) (blkOf yA))
        refine hK.out _ _ hG1 ?_
        clear hK K
        repeat (first
          | (refine ord_skipB rfl (by rfl) ?_; simp only [Act.put, List.setIfInBounds_toArray, List.set_cons_zero, List.set_cons_succ])
          | (refine ord_qE rfl (by rfl) ?_; apply Exists.intro; refine ⟨fun w' hc' => ?_, ?_⟩; (focus (go_simp; (try go_bits); (try simp only [↓IntWalk.iteOmega]); with_reducible rfl)); simp only [Act.put, List.setIfInBounds_toArray, List.set_cons_zero, List.set_cons_succ]))
        refine ord_eB rfl fun K hK => ?_
        go_wp2_with (at_builtin; refine wpList_append_one (w := W1.drew) rfl _ _ _ rfl Try.strsT rfl (own_drew Hrow.out.2) #[.string x.path] rfl (by simp) rfl (by simp [Value.oneCell']) (by unfold maxLen; omega) (by omega) hs1 ?_; intro g6 c6 w6 ho6 hg6 hat6)
        have hG2 := grown_trans hG0 hg6
        refine hK.out _ _ hG2 ?_
        clear hK K
        repeat (first
          | (refine ord_skipB rfl (by rfl) ?_; simp only [Act.put, List.setIfInBounds_toArray, List.set_cons_zero, List.set_cons_succ])
          | (refine ord_qE rfl (by rfl) ?_; apply Exists.intro; refine ⟨fun w' hc' => ?_, ?_⟩; (focus (go_simp; (try go_bits); (try simp only [↓IntWalk.iteOmega]); with_reducible rfl)); simp only [Act.put, List.setIfInBounds_toArray, List.set_cons_zero, List.set_cons_succ]))
        have hof6 := own_keep Ho.out.own fun q o e => hG2.block q (own_lt2 (by rw [← e]; exact Ho.out.own)).2.1 (by injection e with e; injection e with e; rw [← e]; exact hneG)
        have hval6 : (rs.flatMap SC.list)[f]? = some (.slice yA yn yc) := by
          have := flat_get SC.len Hy.out (j := 0) (by omega)
          rw [Nat.mul_one, Nat.add_zero] at this
          exact this
        have q1 := (own_row hof6).1 f _ hval6
        rw [Nat.zero_add] at q1
        have q1f := own_frozen' hof6 f
        clear hof6 hval6
        refine ord_tail rfl fun K hK => ?_
        go_wp2_with (fail)
        refine hK.out _ _ ?_
        clear hK K
        obtain ⟨W8, hW8⟩ : ∃ W, w6.setCell ⟨g, f, none⟩ (.slice (some ⟨g6, 0, none⟩) (yn + 1) c6) = W := ⟨_, rfl⟩
        have hB8 : Blk W8 nb 44 #[.string x.path, .int .i64 (f : Int), .int .i64 x.mode] := by
          rw [← hW8]
          exact (hB6.grown hG2 hneN).set_ne _ _ hnbg
        have hm8 : MapV strK W8 m es := by
          rw [← hW8]
          obtain ⟨ms, ck, hmm⟩ := Hm1.out.isMap
          have hn1 : some m ≠ blkOf yA := fun e => by
            rcases Hrow.out.2.2 with ⟨h', _⟩ | ⟨g', cap, cur, hv, _, hh, _⟩
            · injection h' with h'; rw [h'] at e; cases e
            · injection hv with hv
              rw [hv] at e
              injection e with e
              rw [e, hh] at hmm
              cases hmm
          have hn2 : m ≠ g := fun e => by
            obtain ⟨g', cap, cur, hv, _, hh, _⟩ := Ho.out.own.2.resolve_left (fun h => by cases h.1)
            injection hv with hv
            injection hv with hv
            injection hv with hv
            rw [e, hv, hh] at hmm
            cases hmm
          exact (Hm1.out.kept hG2 hn1).keep (heap_setCell_other _ ⟨g, f, none⟩ m _ hn2)
        have e0 := hB8.cell 0; have e1 := hB8.cell 1
        have hok : strK.ok x.path := by show _ ≤ maxLen; unfold maxLen; omega
        have hel : es.length < maxLen := by unfold maxLen; omega
        have Hm8 := Lib.hid hm8; have Ho6 := Lib.hid ho6; have HG := Lib.hid hG2; have HW8 := Lib.hid hW8; have Hat := Lib.hid hat6; have Hm2 := Lib.hid hm2
        rw [hW8]
        clear n0 n1 k0 q1 q1f hG0 hG1 hG2 ho6 hg6 hat6 hm8 hW8 hneN hneG hnbg hgl hnl hB6 hm2
        go_wp2_with (refine wpList_mv_put rfl Try.mtNum _ _ _ (.inl rfl) rfl Hm8.out (T := strK) (q := x.path) rfl hok rfl hel ?_; intro w9 hm9 hg9 hs9)
        go_roundw
        case rel => exact ⟨k + 1, by omega, by go_num, by
          rw [Hts.out]
          exact HN1.out.file HRk.out HF.out Ho.out Hy.out HG.out Ho6.out (Hat.out.imp (fun h => h) (fun h => Nat.le_of_lt h)) Hm1.out Hm2.out Hm3.out hm9 (by rw [HW8.out]; exact hg9) hgb⟩
        case measure => simp [intOf]; omega
    · obtain rfl : k = nn := by omega
      have hki : ¬ (k : Int) < k := by omega
      have hfin : nodes.take k = nodes := List.take_of_length_le (by rw [Hn.out]; exact Nat.le_refl _)
      rw [hfin] at hN
      have HN := Lib.hid hN
      clear hN hfin
      go_wp2
      obtain ⟨rs, ho⟩ := HN.out.of_
      obtain ⟨es, h1, h2, h3⟩ := HN.out.idx
      go_ret2
      exact ⟨g, m, rs, rfl, ho, ⟨es, h1, by omega, h3⟩, HN.out.m0, HN.out.below⟩
end Go.Proofs.Ytcnpncieibmngaa
