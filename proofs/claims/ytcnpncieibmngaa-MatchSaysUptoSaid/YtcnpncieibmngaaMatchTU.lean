/- match.Match's closure take: a file of s is taken for a file of t. match.Match's closure take, where the file is free. -/
import Derived.Test.YtcnpncieibmngaaMatchM

namespace Go.Proofs.Ytcnpncieibmngaa
open Go.RowKit

theorem numC_get {l : List Nat} {k x : Nat} (h : l[k]? = some x) : (numC l)[k]? = some (.int .i64 x) := by simp [numC, h]
set_option maxRecDepth 100000 in
set_option maxHeartbeats 4000000 in
theorem take_no (C : MC) (W : World) (out : List Src) (F : ByteArray → List Nat) (h : MM1 C W out F) (i : Int) (b : ByteArray) (hb : b.size ≤ maxLen) (f : Nat) (hf : f ∉ F b) (hl : (F b).length ≤ 1000000) :
    Calls Try.prog 34 #[.int .i64 i, .string b, .int .i64 f, .pointer (some ⟨C.fx, 0, none⟩), .pointer (some ⟨C.ox, 0, none⟩)] W fun e w' => e = .returned (.bool false) ∧ w' = W := by
  obtain ⟨es, hM, hes, hE⟩ := h.fM
  obtain ⟨A, c, hlk, hown⟩ := hE.look b
  have hok : strK.ok b := hb
  have f0 := h.fB.cell 0
  obtain ⟨l, hl2⟩ : ∃ l, F b = l := ⟨_, rfl⟩
  rw [hl2] at hlk hown hf hl
  have HM := Lib.hid hM; have HLK := Lib.hid hlk; have HOwn := Lib.hid hown; have HF := Lib.hid hf
  clear hM hlk hown hf hl2 hE h hes
  go_enter Try.func34, Try.ntmps34
  go_wp2_with (refine wpList_mv_look rfl Try.mtNums _ _ rfl rfl HM.out (T := strK) (q := b) rfl hok HLK.out ?_)
  go_loopw [9, 10, 15] (fun v9 v10 i wr => ∃ k : Nat, k ≤ l.length ∧ i = .int .i64 k ∧ wr = W) (fun _ _ i _ => l.length - (intOf i).toNat)
  case atStart => exact ⟨0, Nat.zero_le _, rfl, rfl⟩
  case round =>
    obtain ⟨k, hk, rfl, rfl⟩ := hrel
    by_cases hlt : k < l.length
    · have hki : (k : Int) < l.length := by omega
      obtain ⟨g, rfl⟩ := own_some' HOwn.out (by omega)
      obtain ⟨x, hx⟩ : ∃ x, l[k]? = some x := ⟨_, List.getElem?_eq_getElem hlt⟩
      have c0 := (own_row HOwn.out).1 k _ (numC_get hx)
      rw [Nat.zero_add] at c0
      have hxf : x ≠ f := fun e => HF.out (e ▸ List.mem_of_getElem? hx)
      have hne : ((x : Int) == f) = false := beq_eq_false_iff_ne.2 fun e => hxf (by omega)
      clear hx
      go_wp2
      go_roundw
      case rel => exact ⟨k + 1, by omega, by go_num, by first | rfl | trivial⟩
      case measure => simp [intOf]; omega
    · obtain rfl : k = l.length := by omega
      have hki : ¬ (l.length : Int) < l.length := by omega
      go_wp2
      go_ret
      exact ⟨rfl, rfl⟩
def upd (F : ByteArray → List Nat) (b : ByteArray) (l : List Nat) : ByteArray → List Nat := fun c => if c = b then l else F c
/-- A list that is put into a row of its own, for one content. -/
theorem FreeE.put {W W' : World} {base : Nat} {es : List (ByteArray × Value)} {F : ByteArray → List Nat} (h : FreeE W base es F) (hn : (keysV es).Nodup) {row : Option Nat} (hg : W.grownBy W' row) {A : Option Addr} {n c : Nat} {b : ByteArray} {l : List Nat} (hl : l.length = n) (hne : l ≠ [])
    (ho : W'.ownsRow base 3 1 (.slice A n c) n (numC l)) (hrow : ∀ b' A' n' c' g, b' ≠ b → getV es b' = some (.slice A' n' c') → blkOf A' = some g → some g ≠ row)
    (hA : ∀ g, blkOf A = some g → W.heap.size ≤ g ∨ (∃ A' n' c', getV es b = some (.slice A' n' c') ∧ blkOf A' = some g)) : FreeE W' base (putV es b (.slice A n c)) (upd F b l) := by
  have key : ∀ d A' n' c' g, d ≠ b → getV es d = some (.slice A' n' c') → blkOf A' = some g → blkOf A ≠ some g := fun d A' n' c' g hd hg' hb' e => by
    rcases hA g e with h1 | ⟨A2, n2, c2, h1, h2⟩
    · have := (h.row_lt hg' hb').1; omega
    · exact h.apart d b A' A2 n' n2 c' c2 g hd hg' h1 hb' h2
  refine ⟨fun d hd => ?_, fun d hd => ?_, fun d d' A1 A2 n1 n2 c1 c2 g hdd h1 h2 hg1 hg2 => ?_⟩
  · unfold upd at hd
    split at hd
    · exact absurd hd hne
    · rename_i e
      rw [putV_get hn, if_neg e]
      exact h.no d hd
  · unfold upd at hd ⊢
    by_cases e : d = b
    · subst e
      simp only [if_true]
      rw [putV_get hn, if_pos rfl]
      subst hl
      exact ⟨A, c, rfl, ho⟩
    · simp only [if_neg e] at hd ⊢
      obtain ⟨A', c', h1, h2⟩ := h.yes d hd
      rw [putV_get hn, if_neg e]
      exact ⟨A', c', h1, own_keep h2 fun g o e2 => hg.block g (h.row_lt h1 (by rw [e2]; rfl)).1 (hrow d A' _ c' g e h1 (by rw [e2]; rfl))⟩
  · rw [putV_get hn] at h1 h2
    by_cases e1 : d = b <;> by_cases e2 : d' = b
    · exact hdd (e1.trans e2.symm)
    · rw [if_pos e1] at h1
      rw [if_neg e2] at h2
      injection h1 with h1
      injection h1 with h1
      subst h1
      exact key d' A2 n2 c2 g e2 h2 hg2 hg1
    · rw [if_neg e1] at h1
      rw [if_pos e2] at h2
      injection h2 with h2
      injection h2 with h2
      subst h2
      exact key d A1 n1 c1 g e1 h1 hg1 hg2
    · rw [if_neg e1] at h1
      rw [if_neg e2] at h2
      exact h.apart d d' A1 A2 n1 n2 c1 c2 g hdd h1 h2 hg1 hg2
theorem FreeE.del {W W' : World} {base : Nat} {es es' : List (ByteArray × Value)} {F : ByteArray → List Nat} {b : ByteArray} (h : FreeE W base es F) (hk : ∀ d A n c g, d ≠ b → getV es d = some (.slice A n c) → blkOf A = some g → W'.heap[g]? = W.heap[g]?) (hg : ∀ d, getV es' d = if d = b then none else getV es d) : FreeE W' base es' (upd F b []) := by
  refine ⟨fun d hd => ?_, fun d hd => ?_, fun d d' A1 A2 n1 n2 c1 c2 g hdd h1 h2 hg1 hg2 => ?_⟩
  · rw [hg]
    split
    · rfl
    · rename_i e
      unfold upd at hd
      rw [if_neg e] at hd
      exact h.no d hd
  · unfold upd at hd ⊢
    by_cases e : d = b
    · rw [if_pos e] at hd; exact absurd rfl hd
    · simp only [if_neg e] at hd ⊢
      obtain ⟨A', c', h1, h2⟩ := h.yes d hd
      rw [hg, if_neg e]
      exact ⟨A', c', h1, own_keep h2 fun g o e2 => hk d A' _ c' g e h1 (by rw [e2]; rfl)⟩
  · rw [hg] at h1 h2
    split at h1
    · cases h1
    · split at h2
      · cases h2
      · exact h.apart d d' A1 A2 n1 n2 c1 c2 g hdd h1 h2 hg1 hg2
end Go.Proofs.Ytcnpncieibmngaa

namespace Go.Proofs.Ytcnpncieibmngaa
open Go.RowKit

theorem src_one (a b c : Int) : ∀ u ∈ (#[.int .i64 a, .int .i64 b, .int .i64 c] : Array Value).toList, u.oneCell' = true := by simp [Value.oneCell']
theorem src_set {out : List Src} {i : Nat} (hi : i < out.length) (x : Src) : (out.flatMap Src.list).take (i * 3) ++ x.list ++ (out.flatMap Src.list).drop ((i + 1) * 3) = (out.set i x).flatMap Src.list := by
  have h : out.set i x = out.take i ++ x :: out.drop (i + 1) := by
    apply List.ext_getElem?
    intro j
    rw [List.getElem?_set]
    rcases Nat.lt_trichotomy j i with h | h | h
    · rw [if_neg (by omega), List.getElem?_append_left (by rw [List.length_take]; omega), List.getElem?_take_of_lt h]
    · subst h
      rw [if_pos rfl, if_pos hi, List.getElem?_append_right (by rw [List.length_take]; omega), List.length_take, Nat.min_eq_left (by omega), Nat.sub_self]
      rfl
    · rw [if_neg (by omega), List.getElem?_append_right (by rw [List.length_take]; omega), List.length_take, Nat.min_eq_left (by omega), show j - i = (j - i - 1) + 1 by omega, List.getElem?_cons_succ, List.getElem?_drop]
      congr 1; omega
  rw [flat_take Src.len, flat_drop Src.len, h, List.flatMap_append, List.flatMap_cons, List.append_assoc]
theorem numC_app (l m : List Nat) : numC (l ++ m) = numC l ++ numC m := by simp [numC]
theorem numC_take (l : List Nat) (k : Nat) : (numC l).take k = numC (l.take k) := by simp [numC, List.map_take]
theorem numC_drop (l : List Nat) (k : Nat) : (numC l).drop k = numC (l.drop k) := by simp [numC, List.map_drop]
/-- What stands behind take. -/
def TakeRes (C : MC) (W : World) (out : List Src) (F : ByteArray → List Nat) (i f : Nat) (b : ByteArray) (e : Ending) (w' : World) : Prop :=
  e = .returned (.bool true) ∧ MM1 C w' (out.set i (keepS f)) (upd F b ((F b).filter fun x => decide (x ≠ f))) ∧ FrM C.base [C.fm] W w'
set_option maxRecDepth 100000 in
set_option maxHeartbeats 8000000 in
theorem take_yes (C : MC) (W : World) (out : List Src) (F : ByteArray → List Nat) (h : MM1 C W out F) (i : Nat) (hi : i < C.es.length) (b : ByteArray) (hb : b.size ≤ maxLen) (f kk : Nat) (hf : (F b)[kk]? = some f) (hnd : (F b).Nodup) (hl : (F b).length ≤ 1000000) :
    Calls Try.prog 34 #[.int .i64 i, .string b, .int .i64 f, .pointer (some ⟨C.fx, 0, none⟩), .pointer (some ⟨C.ox, 0, none⟩)] W (TakeRes C W out F i f b) := by
  have HH := Lib.hid h
  obtain ⟨es, hM, hes, hE⟩ := h.fM
  obtain ⟨A, c, hlk, hown⟩ := hE.look b
  have hok : strK.ok b := hb
  have f0 := h.fB.cell 0
  have o0 := h.oB.cell 0
  obtain ⟨l, hl2⟩ : ∃ l, F b = l := ⟨_, rfl⟩
  have hFne : F b ≠ [] := by intro e; rw [e] at hf; simp at hf
  have hes0 : ∃ v, getV es b = some v := by
    obtain ⟨A', c', h1, _⟩ := hE.yes b hFne
    exact ⟨_, h1⟩
  rw [hl2] at hlk hown hf hl hnd
  have hkl : kk < l.length := (List.getElem?_eq_some_iff.1 hf).1
  obtain ⟨g, rfl⟩ := own_some' hown (by omega)
  have hrow := own_row hown
  have hnc : l.length ≤ c := hrow.2.2.2.1
  have hcm : c ≤ maxLen := hrow.2.2.2.2
  have HM := Lib.hid hM; have HLK := Lib.hid hlk; have HOwn := Lib.hid hown; have HF := Lib.hid hf; have HL2 := Lib.hid hl2; have HE := Lib.hid hE; have Hes := Lib.hid hes; have HND := Lib.hid hnd; have Hrow := Lib.hid hrow; have Hes0 := Lib.hid hes0
  have HOR := Lib.hid h.oR
  have hbs := h.size
  have hol := h.ol
  clear hM hlk hown hf hl2 hE h hes hnd hrow hFne hes0
  unfold TakeRes
  go_enter Try.func34, Try.ntmps34
  go_wp2_with (refine wpList_mv_look rfl Try.mtNums _ _ rfl rfl HM.out (T := strK) (q := b) rfl hok HLK.out ?_)
  go_loopw [9, 10, 15] (fun v9 v10 i wr => ∃ k : Nat, k ≤ kk ∧ i = .int .i64 k ∧ wr = W) (fun _ _ i _ => l.length - (intOf i).toNat)
  case atStart => exact ⟨0, Nat.zero_le _, rfl, rfl⟩
  case round =>
    obtain ⟨k, hk, rfl, hWr⟩ := hrel
    subst hWr
    have hlt : k < l.length := by omega
    have hki : (k : Int) < l.length := by omega
    obtain ⟨x, hx⟩ : ∃ x, l[k]? = some x := ⟨_, List.getElem?_eq_getElem hlt⟩
    have c0 := Hrow.out.1 k _ (numC_get hx)
    rw [Nat.zero_add] at c0
    by_cases hkk : k < kk
    · have hxf : x ≠ f := fun e => by
        have h1 := HF.out
        have := (List.getElem?_inj hlt HND.out).1 (hx.trans (by rw [e, h1]))
        omega
      have hne : ((x : Int) == f) = false := beq_eq_false_iff_ne.2 fun e => hxf (by omega)
      clear hx
      go_wp2
      go_roundw
      case rel => exact ⟨k + 1, by omega, by go_num, by first | rfl | trivial⟩
      case measure => simp [intOf]; omega
    · obtain rfl : k = kk := by omega
      obtain rfl : x = f := by have := HF.out; rw [hx] at this; exact Option.some.inj this
      have heq : ((x : Int) == x) = true := beq_self_eq_true _
      have hii : (i : Int) < C.es.length := by omega
      clear hx
      go_upto_region 6 with (refine wpList_store_own (sz := 3) (k := i) (off := i * 3) rfl 35 _ _ rfl HOR.out hi rfl rfl #[.int .i64 1, .int .i64 x, .int .i64 0] rfl rfl (by kernel_rfl) (src_one _ _ _) ?_; intro w1 ho1 hg1)
      have hor := HOR.out
      have hgog : ¬ some g = some C.og := row_ne_row HOwn.out hor (by decide) rfl
      have hf0 : FrM C.base [] wr w1 := FrM.of_row (A := some ⟨C.og, 0, none⟩) hg1 hor (.inl rfl) (Nat.le_refl _) hbs
      have hM1 := hf0.map HM.out (by simp)
      have hown1 := own_keep HOwn.out fun g' o e => hg1.block g' (own_lt2 (by rw [← e]; exact HOwn.out)).2.1 (by injection e with e; injection e with e; rw [← e]; exact hgog)
      have hE1 : FreeE w1 C.base es F := HE.out.keep fun b' A' n' c' g' hg' hA' => by
        obtain ⟨hlt', cur, hh⟩ := HE.out.row_lt hg' hA'
        refine hg1.block g' hlt' fun e => ?_
        injection e with e
        obtain ⟨g2, cap, cur2, hv, _, hh2, _⟩ := hor.2.resolve_left (fun h => by cases h.1)
        injection hv with hv
        injection hv with hv
        injection hv with hv
        rw [← hv, ← e, hh] at hh2
        injection hh2 with hh2
        injection hh2 with _ hh2
        exact absurd hh2 (by decide)
      have hfB1 := hf0.blk HH.out.fB (by decide) (by simp)
      have g0 := hfB1.cell 0
      have hfl := hfB1.lt
      have hs1 := hg1.size
      have hbs1 : C.base ≤ w1.heap.size := by omega
      have Hml : Hid (∀ w', (∀ b, b < w1.heap.size → w'.heap[b]? = w1.heap[b]?) → MapV strK w' C.fm es) := Lib.hid fun w' hh => hM1.keep (hh _ hM1.lt)
      have hS1 : Sl w1 w1.heap.size 1 (some ⟨g, 0, none⟩) l.length (numC l) := Sl.of_own hown1
      have HS1 := Lib.hid hS1; have HO1 := Lib.hid hown1; have HE1 := Lib.hid hE1; have HM1 := Lib.hid hM1; have HF0 := Lib.hid hf0; have Ho1 := Lib.hid ho1; have Hg1 := Lib.hid hg1
      have hkc : (k : Int) ≤ c := by omega
      have hkn1 : (k : Int) + 1 ≤ l.length := by omega
      have hcn1 : (l.length : Int) ≤ c := by omega
      clear hor hM1 hown1 hE1 hfB1 hS1 hf0 ho1 hg1 c0 f0 o0
      refine wp_region_ordG (none) [(0, true), (1, true), (2, true), (3, true), (4, true), (5, true), (6, true), (8, true), (9, true), (10, true), (11, true), (12, true), (13, true), (7, false), (14, false)] 15 (by kernel_rfl) (by kernel_rfl) fun hG0 => ?_
      repeat (first
        | (refine ord_skipB rfl (by rfl) ?_; simp only [Act.put, List.setIfInBounds_toArray, List.set_cons_zero, List.set_cons_succ])
        | (refine ord_qH rfl (by rfl) (fun w' hh => exec_mv_look Try.mtNums rfl rfl rfl (Hml.out w' fun b hb => hh b hb (by simp)) hok HLK.out) ?_; simp only [Act.put, List.setIfInBounds_toArray, List.set_cons_zero, List.set_cons_succ])
        | (refine ord_qE rfl (by rfl) ?_; apply Exists.intro; refine ⟨fun w' hc' => ?_, ?_⟩; (focus (go_simp; (try go_bits); (try simp only [↓IntWalk.iteOmega]); with_reducible rfl)); simp only [Act.put, List.setIfInBounds_toArray, List.set_cons_zero, List.set_cons_succ]))
      obtain ⟨Ak, hAk⟩ : ∃ Ak : Option Addr, (if c = k + 1 then some ⟨g, 0, none⟩ else some ⟨g, k + 1, none⟩) = Ak := ⟨_, rfl⟩
      rw [hAk]
      have hR : Sl w1 w1.heap.size 1 Ak (l.length - (k + 1)) (numC (l.drop (k + 1))) := by
        rw [← hAk]
        refine ⟨by rw [numC_len, List.length_drop, Nat.mul_one], fun hpos => ?_⟩
        rw [if_neg (by omega)]
        refine ⟨g, k + 1, rfl, (own_row HO1.out).2.2.1, ?_⟩
        rw [← numC_drop]
        have := (own_row HO1.out).1.drop (k + 1)
        rwa [Nat.zero_add] at this
      have hSk : Sl w1.drew w1.heap.size 1 (some ⟨g, 0, none⟩) k (numC (l.take k)) := by
        have := HS1.out.first (k := k) (by omega)
        rw [Nat.mul_one, numC_take] at this
        exact this
      have HR := Lib.hid hR; have HSk := Lib.hid hSk
      clear hR hSk hAk
      refine ord_eB rfl fun K hK => ?_
      go_wp2_with (at_builtin; refine wpList_append_sl (w := w1.drew) rfl _ _ _ rfl Try.numT rfl (World.ownsRow_nil w1.drew C.base _ _) rfl HSk.out (numC_one _) (by unfold maxLen; omega) (by omega) hbs1 ?_; intro A2 c2 w2 ho2 hg2 hat2; simp only [Nat.zero_add, List.nil_append] at ho2 ⊢)
      have hG1 := grown_trans hG0 hg2
      refine hK.out _ _ hG1 ?_
      clear hK K
      repeat (first
        | (refine ord_skipB rfl (by rfl) ?_; simp only [Act.put, List.setIfInBounds_toArray, List.set_cons_zero, List.set_cons_succ])
        | (refine ord_qH rfl (by rfl) (fun w' hh => exec_mv_look Try.mtNums rfl rfl rfl (Hml.out w' fun b hb => hh b hb (by simp)) hok HLK.out) ?_; simp only [Act.put, List.setIfInBounds_toArray, List.set_cons_zero, List.set_cons_succ])
        | (refine ord_qE rfl (by rfl) ?_; apply Exists.intro; refine ⟨fun w' hc' => ?_, ?_⟩; (focus (go_simp; (try go_bits); (try simp only [↓IntWalk.iteOmega]); with_reducible rfl)); simp only [Act.put, List.setIfInBounds_toArray, List.set_cons_zero, List.set_cons_succ]))
      refine ord_eB rfl fun K hK => ?_
      go_wp2_with (at_builtin; refine wpList_append_sl (w := w2) rfl _ _ _ rfl Try.numT rfl ho2 rfl (HR.out.keep (Nat.le_refl _) (fun q hq => hg2.block q hq (by simp [blkOf]))) (numC_one _) (by unfold maxLen; omega) (by omega) (Nat.le_trans hbs1 hg2.size) ?_; intro A3 c3 w3 ho3 hg3 hat3)
      have hG2 := grown_own hG1 hg3 (fun q e => (hat2 q e).imp (fun h => by cases h) (fun h => h))
      refine hK.out _ _ hG2 ?_
      clear hK K
      repeat (first
        | (refine ord_skipB rfl (by rfl) ?_; simp only [Act.put, List.setIfInBounds_toArray, List.set_cons_zero, List.set_cons_succ])
        | (refine ord_qH rfl (by rfl) (fun w' hh => exec_mv_look Try.mtNums rfl rfl rfl (Hml.out w' fun b hb => hh b hb (by simp)) hok HLK.out) ?_; simp only [Act.put, List.setIfInBounds_toArray, List.set_cons_zero, List.set_cons_succ])
        | (refine ord_qE rfl (by rfl) ?_; apply Exists.intro; refine ⟨fun w' hc' => ?_, ?_⟩; (focus (go_simp; (try go_bits); (try simp only [↓IntWalk.iteOmega]); with_reducible rfl)); simp only [Act.put, List.setIfInBounds_toArray, List.set_cons_zero, List.set_cons_succ]))
      have hM3 := HM1.out.kept hG2 (by simp)
      have HM3 := Lib.hid hM3; clear hM3
      have hel : es.length < maxLen := by have := Hes.out; unfold maxLen; omega
      refine ord_tail rfl fun K hK => ?_
      go_wp2_with (refine wpList_mv_put rfl Try.mtNums _ _ _ (.inl rfl) rfl HM3.out (T := strK) (q := b) rfl hok rfl hel ?_; intro w4 hm4 hg4 hs4)
      refine hK.out _ _ ?_
      clear hK K
      obtain ⟨N, hN⟩ : ∃ N, k + (l.length - (k + 1)) = N := ⟨_, rfl⟩
      rw [hN] at ho3 hm4 ⊢
      have hcut : l.filter (fun y => decide (y ≠ x)) = l.take k ++ l.drop (k + 1) := cut_filter HND.out HF.out
      have hlN : (l.take k ++ l.drop (k + 1)).length = N := by rw [List.length_append, List.length_take, List.length_drop]; omega
      rw [← numC_app] at ho3
      have hfr4 : FrM C.base [C.fm] wr w4 := ((HF0.out.more (by simp)).trans (FrM.of_none hG2 hbs1 _)).trans (FrM.of_in hg4 (Nat.le_trans hbs1 hG2.size) HH.out.fb (by simp))
      have hmap4 := hm4.isMap
      have hnfm : ∀ (q : Nat) (cur : Array Value) (t : TypeId), w1.heap[q]? = some (.cells cur t (0, 0)) → q ≠ C.fm := fun q cur t hq e => by
        obtain ⟨ms, ck, hmm⟩ := HM1.out.isMap
        rw [← e, hq] at hmm
        cases hmm
      have hk14 : ∀ (q : Nat) (cur : Array Value) (t : TypeId), w1.heap[q]? = some (.cells cur t (0, 0)) → w4.heap[q]? = w1.heap[q]? := fun q cur t hq => by
        have hql := (Array.getElem?_eq_some_iff.1 hq).1
        exact (hg4.block q (Nat.lt_of_lt_of_le hql hG2.size) (fun e => hnfm q cur t hq (by injection e))).trans (hG2.block q hql (by simp))
      have hoR4 : w4.ownsRow C.base 35 3 (.slice (some ⟨C.og, 0, none⟩) C.es.length C.es.length) C.es.length ((out.set i (keepS x)).flatMap Src.list) := by
        have h1 := Ho1.out
        rw [← src_set (by rw [hol]; exact hi)]
        refine own_keep h1 fun q o e => ?_
        obtain ⟨q', cap, cur, hv, _, hh, _⟩ := h1.2.resolve_left (fun h => by cases h.1)
        injection hv with hv
        injection hv with hv
        injection hv with hv
        injection e with e
        injection e with e
        exact hk14 q cur _ (by rw [← e, hv]; exact hh)
      have ho4 : w4.ownsRow C.base 3 1 (.slice A3 N c3) N (numC (l.take k ++ l.drop (k + 1))) := own_keep ho3 fun q o e => by
        refine hg4.block q (own_lt2 (by rw [← e]; exact ho3)).2.1 fun e2 => ?_
        rcases ho3.2 with ⟨h', _⟩ | ⟨q', cap, cur, hv, _, hh, _⟩
        · injection h' with h'; rw [h'] at e; cases e
        · injection hv with hv
          rw [hv] at e
          injection e with e
          injection e with e
          injection e2 with e2
          obtain ⟨ms, ck, hmm⟩ := HM3.out.isMap
          rw [← e2, ← e, hh] at hmm
          cases hmm
      have hA3 : ∀ q, blkOf A3 = some q → w1.heap.size ≤ q := fun q hq => by
        rcases hat3 q hq with h | h
        · rcases hat2 q h with h2 | h2
          · cases h2
          · exact h2
        · exact Nat.le_trans hg2.size h
      have hg14 : w1.grownBy w4 (some C.fm) := grown_trans (grown_any hG2) hg4
      have hfB4 := hfr4.blk HH.out.fB (by decide) (by simp only [List.mem_singleton]; exact Blk.ne_map HH.out.fB HM.out)
      have hsB4 := hfr4.blk HH.out.sB (by decide) (by simp only [List.mem_singleton]; exact Blk.ne_map HH.out.sB HM.out)
      have htB4 := hfr4.blk HH.out.tB (by decide) (by simp only [List.mem_singleton]; exact Blk.ne_map HH.out.tB HM.out)
      have hoB4 := hfr4.blk HH.out.oB (by decide) (by simp only [List.mem_singleton]; exact Blk.ne_map HH.out.oB HM.out)
      have hsz4 : C.base ≤ w4.heap.size := Nat.le_trans hbs1 hg14.size
      have hget4 : (getV (putV es b (.slice A3 N c3)) b).getD (.slice none 0 0) = .slice A3 N c3 := by rw [putV_get HM.out.1, if_pos rfl]; rfl
      have hlen4 : (putV es b (.slice A3 N c3)).length ≤ 300 := by
        obtain ⟨v, hv⟩ := Hes0.out
        rw [putV_len_in hv]; exact Hes.out
      have hrow14 : ∀ b' A' n' c' q, b' ≠ b → getV es b' = some (.slice A' n' c') → blkOf A' = some q → some q ≠ some C.fm := fun b' A' n' c' q _ h1 h2 e => by
        obtain ⟨_, cur, hh⟩ := HE1.out.row_lt h1 h2
        exact hnfm q cur _ hh (by injection e)
      have Hcut := Lib.hid hcut; have HlN := Lib.hid hlN; have Hfr4 := Lib.hid hfr4; have HoR4 := Lib.hid hoR4; have Ho4 := Lib.hid ho4; have HA3 := Lib.hid hA3; have Hg14 := Lib.hid hg14; have Hlen4 := Lib.hid hlen4; have Hrow14 := Lib.hid hrow14; have Hk14 := Lib.hid hk14; have HM4 := Lib.hid hm4; have HG4 := Lib.hid hget4; have Hnfm := Lib.hid hnfm
      have q0 := hfB4.cell 0
      clear hcut hlN hfr4 hmap4 hoR4 ho4 hA3 hg14 hlen4 hrow14 hk14 hm4 hget4 hnfm ho2 hg2 hat2 ho3 hg3 hat3 hG0 hG1 hG2 hg4 hs4 g0
      have hNz : N ≤ 1000000 := by omega
      clear hN
      by_cases hN0 : N = 0
      · subst hN0
        go_wp2_with (first | (refine wpList_mv_look rfl Try.mtNums _ _ rfl rfl HM4.out (T := strK) (q := b) rfl hok HG4.out ?_) | (refine wpList_mv_del rfl Try.mtNums _ _ rfl rfl HM4.out (T := strK) (q := b) rfl hok ?_; intro w5 hm5 hg5 hs5))
        go_ret
        have hfr5 : FrM C.base [C.fm] wr w5 := Hfr4.out.trans (FrM.of_in hg5 hsz4 HH.out.fb (by simp))
        have hk45 : ∀ (q : Nat) (cur : Array Value) (t : TypeId), w4.heap[q]? = some (.cells cur t (0, 0)) → w5.heap[q]? = w4.heap[q]? := fun q cur t hq => hg5.block q (Array.getElem?_eq_some_iff.1 hq).1 fun e => by
          injection e with e
          obtain ⟨ms, ck, hmm⟩ := HM4.out.isMap
          rw [← e, hq] at hmm
          cases hmm
        have hnil : l.take k ++ l.drop (k + 1) = [] := List.eq_nil_of_length_eq_zero HlN.out
        refine ⟨rfl, ⟨Nat.le_trans hsz4 hg5.size, hsB4.keep (hk45 _ _ _ hsB4), htB4.keep (hk45 _ _ _ htB4), hoB4.keep (hk45 _ _ _ hoB4), ?_, by rw [List.length_set]; exact hol, hfB4.keep (hk45 _ _ _ hfB4), ⟨_, hm5, Nat.le_trans (delV_len b) Hlen4.out, ?_⟩, HH.out.fb⟩, hfr5⟩
        · refine own_keep HoR4.out fun q o e => ?_
          obtain ⟨q', cap, cur, hv, _, hh, _⟩ := HoR4.out.2.resolve_left (fun h => by cases h.1)
          injection hv with hv
          injection hv with hv
          injection hv with hv
          injection e with e
          injection e with e
          exact hk45 q cur _ (by rw [← e, hv]; exact hh)
        · rw [HL2.out, Hcut.out, hnil]
          refine HE1.out.del (fun d A n c' q hd hgd hA => ?_) (fun d => ?_)
          · obtain ⟨_, cur, hh⟩ := HE1.out.row_lt hgd hA
            have h14 := Hk14.out q cur _ hh
            exact (hk45 q cur _ (h14.trans hh)).trans h14
          · rw [delV_get (putV_nodup HM.out.1 _ _), putV_get HM.out.1]
            by_cases e : d = b
            · rw [if_pos e, if_pos e]
            · rw [if_neg e, if_neg e, if_neg e]
      · have hNb : ((N : Int) == 0) = false := beq_eq_false_iff_ne.2 (by omega)
        go_wp2_with (refine wpList_mv_look rfl Try.mtNums _ _ rfl rfl HM4.out (T := strK) (q := b) rfl hok HG4.out ?_)
        go_ret
        refine ⟨rfl, ⟨hsz4, hsB4, htB4, hoB4, HoR4.out, by rw [List.length_set]; exact hol, hfB4, ⟨_, HM4.out, Hlen4.out, ?_⟩, HH.out.fb⟩, Hfr4.out⟩
        rw [HL2.out, Hcut.out]
        exact HE1.out.put HM.out.1 Hg14.out HlN.out (fun e => hN0 (by rw [← HlN.out, e]; rfl)) Ho4.out Hrow14.out (fun q hq => .inl (HA3.out q hq))
end Go.Proofs.Ytcnpncieibmngaa
