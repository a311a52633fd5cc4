/- General small laws on memory for the walks of this seat: what a slice reads, what the call owns, appending one element or a whole slice. No conditions of their own beyond the ones stated. -/
import Derived.Test.YtdofehgoeppnmaaRows
import Derived.WalkKit
import Derived.WalkSpells
import Derived.WalkLawsBesides
import Derived.Deep.QuietTactic
import Derived.BigQuiet
import Derived.Deep.RegionHeld3
import Derived.ScopeJumps
import Derived.Maps.AppendAt
import Derived.Lib.Hide
import Derived.Deep.WholeRow
import Derived.Laws.CopyRow
import Derived.Laws.ResultCell
import Derived.Deep.DeepCutAuto
import Derived.Deep.CutBlock
namespace Go.Proofs.Ytdofehgoeppnmaa
open Go.RowKit

/-- Block b from offset o on holds the cells L. -/
def RowAt (w : World) (b o : Nat) (L : List Value) : Prop := ∀ (i : Nat) (v : Value), L[i]? = some v → w.cell? ⟨b, o + i, none⟩ = some v

theorem RowAt.keep {w w' : World} {b o : Nat} {L : List Value} (h : RowAt w b o L) (hk : w'.heap[b]? = w.heap[b]?) : RowAt w' b o L :=
  fun i v hv => (World.cell?_of_block (w := w) (a := ⟨b, o + i, none⟩) hk).trans (h i v hv)
theorem RowAt.drop {w : World} {b o : Nat} {L : List Value} (h : RowAt w b o L) (k : Nat) : RowAt w b (o + k) (L.drop k) := fun i v hv => by
  rw [List.getElem?_drop] at hv
  have := h (k + i) v hv
  rwa [← Nat.add_assoc] at this
theorem RowAt.take {w : World} {b o : Nat} {L : List Value} (h : RowAt w b o L) (k : Nat) : RowAt w b o (L.take k) := fun i v hv => by
  rw [List.getElem?_take] at hv
  split at hv
  · exact h i v hv
  · cases hv

/-- The slice (A, n) reads as the cells L (sz cells an element), in a block below B. -/
def Sl (w : World) (B sz : Nat) (A : Option Addr) (n : Nat) (L : List Value) : Prop :=
  L.length = n * sz ∧ (0 < n → ∃ b o, A = some ⟨b, o, none⟩ ∧ b < B ∧ RowAt w b o L)

theorem Sl.keep {w w' : World} {B B' sz n : Nat} {A : Option Addr} {L : List Value} (h : Sl w B sz A n L) (hB : B ≤ B') (hk : ∀ k, k < B → w'.heap[k]? = w.heap[k]?) : Sl w' B' sz A n L :=
  ⟨h.1, fun hn => by
    obtain ⟨b, o, e, hb, hr⟩ := h.2 hn
    exact ⟨b, o, e, by omega, hr.keep (hk b hb)⟩⟩
theorem Sl.below {w w' : World} {B C sz n : Nat} {A : Option Addr} {L : List Value} (h : Sl w B sz A n L) (hb : Below C w w') (hC : B ≤ C) : Sl w' B sz A n L :=
  h.keep (Nat.le_refl _) fun k hk => hb.block k (by omega)
theorem Sl.more {w : World} {B B' sz n : Nat} {A : Option Addr} {L : List Value} (h : Sl w B sz A n L) (hB : B ≤ B') : Sl w B' sz A n L := h.keep hB fun _ _ => rfl
theorem Sl.nil (w : World) (B sz : Nat) (A : Option Addr) : Sl w B sz A 0 [] := ⟨by simp, fun h => absurd h (Nat.lt_irrefl _)⟩
theorem Sl.of_own {w : World} {base e sz n c : Nat} {A : Option Addr} {L : List Value} (h : w.ownsRow base e sz (.slice A n c) n L) : Sl w w.heap.size sz A n L := by
  refine ⟨h.1, fun hn => ?_⟩
  rcases h.2 with ⟨_, h0⟩ | ⟨g, cap, cur, hv, hg, hh, hnc, hcm, hcs, ht⟩
  · omega
  · injection hv with hA
    refine ⟨g, 0, hA, (Array.getElem?_eq_some_iff.1 hh).1, fun i v hi => ?_⟩
    rw [← ht, List.getElem?_take] at hi
    split at hi
    · have : cur[i]? = some v := by rw [← Array.getElem?_toList]; exact hi
      simp [World.cell?, hh, this]
    · cases hi
theorem Sl.first {w : World} {B sz n : Nat} {A : Option Addr} {L : List Value} (h : Sl w B sz A n L) {k : Nat} (hk : k ≤ n) : Sl w B sz A k (L.take (k * sz)) := by
  refine ⟨by rw [List.length_take, h.1]; exact Nat.min_eq_left (Nat.mul_le_mul_right _ hk), fun h0 => ?_⟩
  obtain ⟨b, o, e, hb, hr⟩ := h.2 (by omega)
  exact ⟨b, o, e, hb, hr.take _⟩

/-- An own row stays owned where its block is unchanged. -/
theorem own_keep {w w' : World} {base e sz n c : Nat} {A : Option Addr} {L : List Value} (h : w.ownsRow base e sz (.slice A n c) n L) (hk : ∀ g o, A = some ⟨g, o, none⟩ → w'.heap[g]? = w.heap[g]?) : w'.ownsRow base e sz (.slice A n c) n L := by
  refine ⟨h.1, ?_⟩
  rcases h.2 with h0 | ⟨g, cap, cur, hv, hg, hh, r⟩
  · exact .inl h0
  · have hA : A = some ⟨g, 0, none⟩ := by injection hv
    exact .inr ⟨g, cap, cur, hv, hg, (hk g 0 hA).trans hh, r⟩

/-- What the slice type's table says: t is []e, an element has sz cells and `by_` bytes. -/
structure ElemT (P : Program) (t e : TypeId) (sz by_ : Nat) : Prop where
  ht : P.underlying t = some (.slice e)
  hi : ∃ i z, P.info? e = some i ∧ i.zero = some z ∧ i.size = sz ∧ i.bytes = by_ ∧ z.cells.size = sz
  pos : 0 < sz
theorem ElemT.mk' {P : Program} {t e : TypeId} {sz by_ : Nat} {z : Value} (ht : P.underlying t = some (.slice e)) (h : (P.info? e).map (fun i => (i.zero, i.size, i.bytes)) = some (some z, sz, by_)) (hz : z.cells.size = sz) (hp : 0 < sz) : ElemT P t e sz by_ := by
  obtain ⟨i, h1, h2, h3, h4⟩ := info_parts h
  exact ⟨ht, ⟨i, z, h1, h2, h3, h4, hz⟩, hp⟩

def blkOf : Option Addr → Option Nat
  | some a => some a.block
  | none => none

theorem grown_of_alloc {w w' : World} {o : Obj} {row : Option Nat} (h : (w.alloc o).grownBy w' row) : w.grownBy w' row :=
  ⟨h.os, h.tape, h.output, Nat.le_trans (by simp) h.size, fun k hk hne => (h.block k (by simp; omega) hne).trans (Below.heap_alloc w o k hk)⟩

section
variable {P : Program} {ops : Array Oper} {rest : List Oper} {o : Oper} {a : Act} {Q : Exit → Act → World → Prop} {w : World}

/-- 's = append(s, x)', x one element that lies in the newest block. -/
theorem run_append_one {t ty e sz by_ : Nat} (T : ElemT P t e sz by_) {base : Nat} {A : Option Addr} {n c : Nat} {L : List Value} (hown : w.ownsRow base e sz (.slice A n c) n L)
    (cs : Array Value) (hl : cs.size = sz) (h1 : ∀ u ∈ cs.toList, u.oneCell' = true) (h63 : n + 1 ≤ maxLen) (hb : (n + 1) * by_ ≤ 140737488355328) (hbase : base ≤ w.heap.size) :
    ∃ g c' w', (Builtin.append_ #[t, t] ty #[.slice A n c, .slice (some ⟨w.heap.size, 0, none⟩) 1 1]).run P (w.alloc (.cells cs e)) = .ok (.slice (some ⟨g, 0, none⟩) (n + 1) c') w' ∧
      w'.ownsRow base e sz (.slice (some ⟨g, 0, none⟩) (n + 1) c') (n + 1) (L ++ cs.toList) ∧ w.grownBy w' (blkOf A) ∧ (blkOf A = some g ∨ w.heap.size < g) := by
  obtain ⟨i, z, h2, h3, h4, h5, h6⟩ := T.hi
  have hown' : (w.alloc (.cells cs e)).ownsRow base e sz (.slice A n c) n L := hown.alloc _
  obtain ⟨v', w', hrun, ho, hg, hnil, hat⟩ := run_append_own_at (P := P) (w.alloc (.cells cs e)) base t ty e i z sz by_ T.ht h2 h3 h4 h5 h6 T.pos (.slice A n c) n L hown' ⟨w.heap.size, 0, none⟩ 1 1 cs.toList (by simp [hl])
    (fun j u hu => by
      have e1 : (⟨w.heap.size, 0, none⟩ : Addr).add j = ⟨w.heap.size, j, none⟩ := by unfold Addr.add; split <;> simp_all
      rw [e1]
      have : cs[j]? = some u := by rw [← Array.getElem?_toList]; exact hu
      unfold World.cell?
      rw [show (⟨w.heap.size, j, none⟩ : Addr).block = w.heap.size from rfl, heap_alloc_new]
      simpa using this) h1 h63 hb (by simp; omega)
  obtain ⟨g, cap, rfl⟩ : ∃ g cap, v' = .slice (some ⟨g, 0, none⟩) (n + 1) cap := by
    rcases ho.2 with ⟨_, h⟩ | ⟨g, cap, _, h, _⟩
    · omega
    · exact ⟨g, cap, h⟩
  refine ⟨g, cap, w', hrun, ho, ?_, ?_⟩
  · have : (Value.slice A n c).ownBlock = blkOf A := by cases A <;> rfl
    rw [this] at hg
    exact grown_of_alloc hg
  · rcases hat with h | h
    · left
      cases A <;> simp_all [Value.ownBlock, blkOf]
    · right
      simp [Value.ownBlock] at h
      omega

theorem wpList_append_one (hgd : o.guard = none) (s x : Operand) (t : TypeId) (ho : o.op = .call { callee := .builtin .append, args := #[s, x], argTypes := #[t, t] })
    {e sz by_ : Nat} (T : ElemT P t e sz by_) {base : Nat} {A : Option Addr} {n c : Nat} {L : List Value} (hs : a.eval s = .slice A n c) (hown : w.ownsRow base e sz (.slice A n c) n L)
    (cs : Array Value) {N : Nat} (hx : a.eval x = .slice (some ⟨N, 0, none⟩) 1 1) (hN : N = w.heap.size) (hl : cs.size = sz) (h1 : ∀ u ∈ cs.toList, u.oneCell' = true) (h63 : n + 1 ≤ maxLen) (hb : (n + 1) * by_ ≤ 140737488355328) (hbase : base ≤ w.heap.size)
    (h : ∀ g c' w', w'.ownsRow base e sz (.slice (some ⟨g, 0, none⟩) (n + 1) c') (n + 1) (L ++ cs.toList) → w.grownBy w' (blkOf A) → (blkOf A = some g ∨ w.heap.size < g) → wpList P ops Q rest (a.put o.dst (.slice (some ⟨g, 0, none⟩) (n + 1) c')) w') :
    wpList P ops Q (o :: rest) a (w.alloc (.cells cs e)) := by
  subst hN
  refine wpList_plain hgd fun K hK => ?_
  obtain ⟨g, c', w', hrun, h2, h3, h4⟩ := run_append_one (P := P) (w := w) (ty := o.type) T hown cs hl h1 h63 hb hbase
  unfold Oper.wp execOp
  simp only [ho, resolve, invoke, builtin, Sem.run_bind, Sem.run_pure, Result.andThen_ok, List.map_toArray, List.map_cons, List.map_nil, hs, hx, hrun]
  exact hK _ _ (h g c' w' h2 h3 h4)

theorem own_row {w : World} {base e sz g n c : Nat} {L : List Value} (h : w.ownsRow base e sz (.slice (some ⟨g, 0, none⟩) n c) n L) : RowAt w g 0 L ∧ base ≤ g ∧ g < w.heap.size ∧ n ≤ c ∧ c ≤ maxLen := by
  rcases h.2 with ⟨h', _⟩ | ⟨g', cap, cur, hv, hg, hh, hnc, hcm, hcs, ht⟩
  · cases h'
  · injection hv with hA _ hC
    injection hA with hA
    injection hA with hA
    subst hA hC
    refine ⟨fun i v hi => ?_, hg, (Array.getElem?_eq_some_iff.1 hh).1, hnc, hcm⟩
    rw [← ht, List.getElem?_take] at hi
    split at hi
    · have : cur[i]? = some v := by rw [← Array.getElem?_toList]; exact hi
      simp [World.cell?, hh, this]
    · cases hi
theorem add_at (g o j : Nat) : (⟨g, o, none⟩ : Addr).add j = ⟨g, o + j, none⟩ := by unfold Addr.add; split <;> simp_all
/-- 'append(s[:i], s[j:]...)' on a row of the call's own. -/
theorem run_append_cut {t ty e sz by_ : Nat} (T : ElemT P t e sz by_) {base g n c i j : Nat} {L : List Value} (hown : w.ownsRow base e sz (.slice (some ⟨g, 0, none⟩) n c) n L)
    (hij : i ≤ j) (hj : j ≤ n) (ad : Addr) (had : j < n → ad = ⟨g, j * sz, none⟩) (cs : Nat) (h1 : ∀ u ∈ L, u.oneCell' = true) :
    ∃ w', (Builtin.append_ #[t, t] ty #[.slice (some ⟨g, 0, none⟩) i c, .slice (some ad) (n - j) cs]).run P w = .ok (.slice (some ⟨g, 0, none⟩) (i + (n - j)) c) w' ∧
      w'.ownsRow base e sz (.slice (some ⟨g, 0, none⟩) (i + (n - j)) c) (i + (n - j)) (L.take (i * sz) ++ L.drop (j * sz)) ∧ w.grownBy w' (some g) := by
  obtain ⟨hrow, hbg, hlt, hnc, hcm⟩ := own_row hown
  obtain ⟨ti, z, h2, h3, h4, h5, h6⟩ := T.hi
  have hL := hown.1
  have hpre : w.ownsRow base e sz (.slice (some ⟨g, 0, none⟩) i c) i (L.take (i * sz)) := by
    have hi : i * sz ≤ n * sz := Nat.mul_le_mul_right _ (by omega)
    refine ⟨by rw [List.length_take, hL]; exact Nat.min_eq_left hi, ?_⟩
    rcases hown.2 with ⟨h', _⟩ | ⟨g', cap, cur, hv, hg, hh, hnc', hcm', hcs, ht⟩
    · cases h'
    · injection hv with hA _ hC
      injection hA with hA
      injection hA with hA
      subst hA hC
      exact .inr ⟨g, c, cur, rfl, hg, hh, by omega, hcm', hcs, by rw [← ht, List.take_take, Nat.min_eq_left hi]⟩
  refine run_append_fits (P := P) w base t ty e ti sz T.ht h2 h4 g i c _ hpre ad (n - j) cs (L.drop (j * sz)) (by rw [List.length_drop, hL, Nat.sub_mul]) (fun k u hk => ?_) (fun u hu => h1 u (List.mem_of_mem_drop hu)) (by omega)
  rw [List.getElem?_drop] at hk
  have hlt2 : j * sz + k < L.length := (List.getElem?_eq_some_iff.1 hk).1
  have hjn : j < n := by
    rcases Nat.lt_or_ge j n with h | h
    · exact h
    · exfalso
      have : n * sz ≤ j * sz := Nat.mul_le_mul_right _ h
      omega
  rw [had hjn, add_at]
  have := hrow _ _ hk
  simpa using this
theorem wpList_append_cut (hgd : o.guard = none) (s x : Operand) (t : TypeId) (ho : o.op = .call { callee := .builtin .append, args := #[s, x], argTypes := #[t, t] })
    {e sz by_ : Nat} (T : ElemT P t e sz by_) {base g n c i m j : Nat} {L : List Value} (hs : a.eval s = .slice (some ⟨g, 0, none⟩) i c) (hown : w.ownsRow base e sz (.slice (some ⟨g, 0, none⟩) n c) n L)
    (ad : Addr) (cs : Nat) (hx : a.eval x = .slice (some ad) m cs) (hm : m = n - j) (hij : i ≤ j) (hj : j ≤ n) (had : j < n → ad = ⟨g, j * sz, none⟩) (h1 : ∀ u ∈ L, u.oneCell' = true)
    (h : ∀ w', w'.ownsRow base e sz (.slice (some ⟨g, 0, none⟩) (i + m) c) (i + m) (L.take (i * sz) ++ L.drop (j * sz)) → w.grownBy w' (some g) → wpList P ops Q rest (a.put o.dst (.slice (some ⟨g, 0, none⟩) (i + m) c)) w') :
    wpList P ops Q (o :: rest) a w := by
  subst hm
  refine wpList_plain hgd fun K hK => ?_
  obtain ⟨w', hrun, h2, h3⟩ := run_append_cut (P := P) (w := w) (ty := o.type) T hown hij hj ad had cs h1
  unfold Oper.wp execOp
  simp only [ho, resolve, invoke, builtin, Sem.run_bind, Sem.run_pure, Result.andThen_ok, List.map_toArray, List.map_cons, List.map_nil, hs, hx, hrun]
  exact hK _ _ (h w' h2 h3)

/-- 'copy(s[k:], x)' into a row of the call's own: m elements. -/
theorem run_copy_at {dT sT ty e sz by_ : Nat} (T : ElemT P dT e sz by_) {base g n c k m : Nat} {L news : List Value} (hown : w.ownsRow base e sz (.slice (some ⟨g, 0, none⟩) n c) n L)
    (dLen dCap : Nat) (ad : Addr) (sLen sCap : Nat) (hm : m = Nat.min sLen dLen) (hkm : k + m ≤ n) (hnews : news.length = m * sz) (hsrc : ∀ j v, news[j]? = some v → w.cell? (ad.add j) = some v) (h1 : ∀ v ∈ news, v.oneCell' = true) :
    ∃ w', (Builtin.copy_ #[dT, sT] ty #[.slice (some ⟨g, k * sz, none⟩) dLen dCap, .slice (some ad) sLen sCap]).run P w = .ok (goInt m) w' ∧
      w'.ownsRow base e sz (.slice (some ⟨g, 0, none⟩) n c) n (L.take (k * sz) ++ news ++ L.drop ((k + m) * sz)) ∧ w.grownBy w' (some g) := by
  obtain ⟨ti, z, h2, h3, h4, h5, h6⟩ := T.hi
  subst hm
  have hL := hown.1
  rcases hown.2 with ⟨h', _⟩ | ⟨g', cap, cur, hv, hg, hh, hnc, hcm, hcs, ht⟩
  · cases h'
  · injection hv with hA _ hC
    injection hA with hA
    injection hA with hA
    subst hA hC
    have hk1 : (k + Nat.min sLen dLen) * sz ≤ n * sz := Nat.mul_le_mul_right _ hkm
    have hk2 : n * sz ≤ c * sz := Nat.mul_le_mul_right _ hnc
    have hk3 : (k + Nat.min sLen dLen) * sz = k * sz + Nat.min sLen dLen * sz := Nat.add_mul _ _ _
    have hl := run_loadCells_list (P := P) w ad news hsrc
    have hst := run_storeCells_at P g (k * sz) e news 0 cur w hh (by omega) h1
    refine ⟨w.setRow g (cur.toList.take (k * sz) ++ news ++ cur.toList.drop (k * sz + news.length)).toArray, ?_, ⟨?_, .inr ⟨g, c, _, rfl, hg, setRow_heap w g cur _ e _ hh, hnc, hcm, ?_, ?_⟩⟩, ⟨rfl, rfl, rfl, by simp, fun q _ hq => setRow_other w g q _ (fun e => hq (by simp [e]))⟩⟩
    · rw [hnews] at hl hst
      simp only [Nat.add_zero] at hst
      rw [← hnews] at hst
      subst h4
      simp [Builtin.copy_, run_underlying T.ht, Builtin.lenOf, Builtin.firstCells, sizeOf, typeInfo, h2, hl, hst]
    · simp only [List.length_append, List.length_take, List.length_drop, hL, hnews]
      omega
    · simp only [List.size_toArray, List.length_append, List.length_take, List.length_drop, Array.length_toList]
      omega
    · have hlen : (cur.toList.take (k * sz) ++ news).length = (k + Nat.min sLen dLen) * sz := by
        rw [List.length_append, List.length_take, Array.length_toList, hnews]; omega
      have e1 : n * sz = (k + Nat.min sLen dLen) * sz + (n * sz - (k + Nat.min sLen dLen) * sz) := by omega
      rw [e1, ← hlen, List.take_length_add_append, ← ht, List.take_take, Nat.min_eq_left (by omega), List.drop_take, hnews, ← hk3]
      rw [hlen]
theorem wpList_copy_at (hgd : o.guard = none) (d s : Operand) (dT sT : TypeId) (ho : o.op = .call { callee := .builtin .copy, args := #[d, s], argTypes := #[dT, sT] })
    {e sz by_ : Nat} (T : ElemT P dT e sz by_) {base g n c : Nat} {L : List Value} (hown : w.ownsRow base e sz (.slice (some ⟨g, 0, none⟩) n c) n L) (k m off dLen dCap : Nat) (news : List Value)
    (hd : a.eval d = .slice (some ⟨g, off, none⟩) dLen dCap) (hoff : off = k * sz) (ad : Addr) (sLen sCap : Nat) (hs : a.eval s = .slice (some ad) sLen sCap) (hm : m = Nat.min sLen dLen) (hkm : k + m ≤ n) (hnews : news.length = m * sz)
    (hsrc : ∀ j v, news[j]? = some v → w.cell? (ad.add j) = some v) (h1 : ∀ v ∈ news, v.oneCell' = true)
    (h : ∀ w', w'.ownsRow base e sz (.slice (some ⟨g, 0, none⟩) n c) n (L.take (k * sz) ++ news ++ L.drop ((k + m) * sz)) → w.grownBy w' (some g) → wpList P ops Q rest (a.put o.dst (goInt m)) w') :
    wpList P ops Q (o :: rest) a w := by
  subst hoff
  refine wpList_plain hgd fun K hK => ?_
  obtain ⟨w', hrun, h2, h3⟩ := run_copy_at (P := P) (w := w) (sT := sT) (ty := o.type) T hown dLen dCap ad sLen sCap hm hkm hnews hsrc h1
  unfold Oper.wp execOp
  simp only [ho, resolve, invoke, builtin, Sem.run_bind, Sem.run_pure, Result.andThen_ok, List.map_toArray, List.map_cons, List.map_nil, hd, hs, hrun]
  exact hK _ _ (h w' h2 h3)
theorem wpList_copy_none (hgd : o.guard = none) (d s : Operand) (dT sT : TypeId) (ho : o.op = .call { callee := .builtin .copy, args := #[d, s], argTypes := #[dT, sT] })
    {e sz by_ : Nat} (T : ElemT P dT e sz by_) (dp : Option Addr) (dLen dCap : Nat) (hd : a.eval d = .slice dp dLen dCap) (hs : a.eval s = .slice none 0 0)
    (h : wpList P ops Q rest (a.put o.dst (goInt 0)) w) : wpList P ops Q (o :: rest) a w := by
  obtain ⟨ti, z, h2, h3, h4, h5, h6⟩ := T.hi
  refine wpList_plain hgd fun K hK => ?_
  have hrun : (Builtin.copy_ #[dT, sT] o.type #[.slice dp dLen dCap, .slice none 0 0]).run P w = .ok (goInt 0) w := by
    cases dp <;> simp [Builtin.copy_, run_underlying T.ht, Builtin.lenOf, Builtin.firstCells, sizeOf, typeInfo, h2, storeCells]
  unfold Oper.wp execOp
  simp only [ho, resolve, invoke, builtin, Sem.run_bind, Sem.run_pure, Result.andThen_ok, List.map_toArray, List.map_cons, List.map_nil, hd, hs, hrun]
  exact hK _ _ h

/-- A whole struct or array stored into the newest block. -/
theorem wpList_store_new (hgd : o.guard = none) (ty : TypeId) (x y : Operand) (ho : o.op = .store ty x y) (t : TypeId) (old cells : Array Value)
    (hx : a.eval x = .pointer (some ⟨w.heap.size, 0, none⟩)) (hy : a.eval y = .agg cells) (hi : (P.info? ty).map (·.size) = some cells.size) (hold : old.size = cells.size) (h1 : cells.all (·.oneCell') = true)
    (h : wpList P ops Q rest (a.put o.dst undef) (w.alloc (.cells cells t))) : wpList P ops Q (o :: rest) a (w.alloc (.cells old t)) := by
  refine wpList_store_row hgd ty x y ho w.heap.size cells hx hy t old (heap_alloc_new w _) hi hold h1 ?_
  have e : (w.alloc (.cells old t)).setRow w.heap.size cells = w.alloc (.cells cells t) := by
    unfold World.setRow World.alloc
    congr 1
    apply Array.ext
    · simp
    · intro k h1 h2
      have hk2 : k < w.heap.size + 1 := by simpa using h2
      simp only [Array.getElem_modify, Array.getElem_push]
      by_cases hk : w.heap.size = k
      · subst hk; simp
      · have hk3 : k < w.heap.size := by omega
        simp [hk, hk3]
  rw [e]
  exact h
end
/-- One result, which lies in memory. -/
theorem results_cell1 {fn : Func} {p : Tmp} {ty : TypeId} (h : fn.results = #[.cell p ty]) (tmps : Array Value) (P : Program) (w : World) :
    (results fn tmps).run P w = ((asAddr (tmps.getD p undef)).run P w).andThen fun a w₁ => (loadVar ty a).run P w₁ := by
  simp only [results, h]
  simp [Sem.run_bind, Result.andThen]
theorem ret_cell1 {P : Program} {fn : Func} {p : Tmp} {ty : TypeId} {R : Ending → World → Prop} {a : Act} {w : World} {ad : Addr} {v : Value} (h : fn.results = #[.cell p ty]) (hp : a.tmps.getD p undef = .pointer (some ad))
    (hl : (loadVar ty ad).run P w = .ok v w) (hd : a.defers = []) (hR : R (.returned v) w) : bodyPost P fn R .ret a w :=
  bodyPost_ret (by rw [results_cell1 h, hp]; simp [asAddr, hl]) hd hR
/-- Block g is the cells cs. -/
def Blk (w : World) (g : Nat) (t : TypeId) (cs : Array Value) : Prop := w.heap[g]? = some (.cells cs t (0, 0))
theorem Blk.lt {w : World} {g : Nat} {t : TypeId} {cs : Array Value} (h : Blk w g t cs) : g < w.heap.size := (Array.getElem?_eq_some_iff.1 h).1
theorem Blk.cell {w : World} {g : Nat} {t : TypeId} {cs : Array Value} (h : Blk w g t cs) (i : Nat) : w.cell? ⟨g, i, none⟩ = cs[i]? := by
  unfold Blk at h
  simp [World.cell?, h]
theorem Blk.frozen {w : World} {g : Nat} {t : TypeId} {cs : Array Value} (h : Blk w g t cs) (i : Nat) : w.frozen? ⟨g, i, none⟩ = false := by
  unfold Blk at h
  simp [World.frozen?, h]
theorem Blk.keep {w w' : World} {g : Nat} {t : TypeId} {cs : Array Value} (h : Blk w g t cs) (hk : w'.heap[g]? = w.heap[g]?) : Blk w' g t cs := hk.trans h
theorem Blk.below {w w' : World} {g B : Nat} {t : TypeId} {cs : Array Value} (h : Blk w g t cs) (hb : Below B w w') (hg : g < B) : Blk w' g t cs := h.keep (hb.block g hg)
theorem Blk.alloc {w : World} {g : Nat} {t : TypeId} {cs : Array Value} (h : Blk w g t cs) (o : Obj) : Blk (w.alloc o) g t cs := h.keep (Below.heap_alloc w o g h.lt)
theorem Blk.new (w : World) (t : TypeId) (cs : Array Value) : Blk (w.alloc (.cells cs t)) w.heap.size t cs := heap_alloc_new w _
theorem Blk.grown {w w' : World} {g : Nat} {t : TypeId} {cs : Array Value} {row : Option Nat} (h : Blk w g t cs) (hb : w.grownBy w' row) (hg : some g ≠ row) : Blk w' g t cs := h.keep (hb.block g h.lt hg)
/-- Blocks of unlike element types are two. -/
theorem Blk.ne_own {w : World} {g g' base e sz n c : Nat} {t : TypeId} {cs : Array Value} {L : List Value} (h : Blk w g t cs) (ho : w.ownsRow base e sz (.slice (some ⟨g', 0, none⟩) n c) n L) (hne : t ≠ e) : g ≠ g' := by
  rintro rfl
  rcases ho.2 with ⟨h', _⟩ | ⟨g2, _, _, h', _, hh, _⟩
  · cases h'
  · injection h' with h'; injection h' with h'; injection h' with h' _; subst h'
    unfold Blk at h
    rw [h] at hh
    injection hh with hh
    injection hh with _ hh
    exact hne hh
theorem grown_any {w w' : World} {row : Option Nat} (h : w.grownBy w' none) : w.grownBy w' row := ⟨h.os, h.tape, h.output, h.size, fun k hk _ => h.block k hk (by simp)⟩
end Go.Proofs.Ytdofehgoeppnmaa
