/- General small laws on memory for the walks of this seat: what a slice reads, what the call owns, appending one element or a whole slice. No conditions of their own beyond the ones stated. A list of things of sz cells each, as cells in memory. A region whose order is open, walked in one order that is chosen ahead: operations that yield one value in every world that meets S are taken first; what may change the world comes up alone. A region whose order is open and whose last operation, for which all others wait, may break what the others keep. A region whose order is open, walked as a tree: where several operations may come up, each gets a branch of its own. Writing one element of a row that the call owns; a row that make has made. 'append(s, t...)': s a row of the call's own, t any slice that is known. Results that lie in memory; a whole struct stored into a block that is known. string(b) of bytes that were laid just now. What every law's last step needs: arguments opened, results shut. A map from strings to ints that the call owns, as a function of the key. -/
import Derived.Test.YtgeiegjpnnbloaaDoorRows
import Derived.WalkKit
import Derived.WalkSpells
import Derived.WalkLawsBesides
import Derived.Deep.QuietTactic
import Derived.BigQuiet
import Derived.Deep.RegionHeld3
import Derived.ScopeJumps
import Derived.Maps.AppendAt
import Derived.Lib.Hide
import Derived.Deep.WholeRow
import Derived.Laws.CopyRow
import Derived.Laws.ResultCell
import Derived.Deep.DeepCutAuto
import Derived.Deep.CutBlock
import Derived.OrdersHeld
import Derived.StillTail
import Derived.Laws.OwnMore
import Derived.Laws.AppendOwnNone
import Derived.Laws.BytesArg
import Derived.ProofKit
import Derived.OpenShut
import Derived.ShutString
import Derived.ChangeOld
import Derived.Below
import Derived.Deep.Slices
import Derived.Deep.Fields
import Derived.ChangeSame
import Derived.Maps.OwnOps
import Derived.Maps.Views
import Derived.Carry

namespace Go.Proofs.YtgeiegjpnnbloaaDoor
open Go.RowKit

/-- Block b from offset o on holds the cells L. -/
def RowAt (w : World) (b o : Nat) (L : List Value) : Prop := ∀ (i : Nat) (v : Value), L[i]? = some v → w.cell? ⟨b, o + i, none⟩ = some v

theorem RowAt.keep {w w' : World} {b o : Nat} {L : List Value} (h : RowAt w b o L) (hk : w'.heap[b]? = w.heap[b]?) : RowAt w' b o L :=
  fun i v hv => (World.cell?_of_block (w := w) (a := ⟨b, o + i, none⟩) hk).trans (h i v hv)
theorem RowAt.drop {w : World} {b o : Nat} {L : List Value} (h : RowAt w b o L) (k : Nat) : RowAt w b (o + k) (L.drop k) := fun i v hv => by
  rw [List.getElem?_drop] at hv
  have := h (k + i) v hv
  rwa [← Nat.add_assoc] at this
theorem RowAt.take {w : World} {b o : Nat} {L : List Value} (h : RowAt w b o L) (k : Nat) : RowAt w b o (L.take k) := fun i v hv => by
  rw [List.getElem?_take] at hv
  split at hv
  · exact h i v hv
  · cases hv

/-- The slice (A, n) reads as the cells L (sz cells an element), in a block below B. -/
def Sl (w : World) (B sz : Nat) (A : Option Addr) (n : Nat) (L : List Value) : Prop :=
  L.length = n * sz ∧ (0 < n → ∃ b o, A = some ⟨b, o, none⟩ ∧ b < B ∧ RowAt w b o L)

theorem Sl.keep {w w' : World} {B B' sz n : Nat} {A : Option Addr} {L : List Value} (h : Sl w B sz A n L) (hB : B ≤ B') (hk : ∀ k, k < B → w'.heap[k]? = w.heap[k]?) : Sl w' B' sz A n L :=
  ⟨h.1, fun hn => by
    obtain ⟨b, o, e, hb, hr⟩ := h.2 hn
    exact ⟨b, o, e, by omega, hr.keep (hk b hb)⟩⟩
theorem Sl.below {w w' : World} {B C sz n : Nat} {A : Option Addr} {L : List Value} (h : Sl w B sz A n L) (hb : Below C w w') (hC : B ≤ C) : Sl w' B sz A n L :=
  h.keep (Nat.le_refl _) fun k hk => hb.block k (by omega)
theorem Sl.more {w : World} {B B' sz n : Nat} {A : Option Addr} {L : List Value} (h : Sl w B sz A n L) (hB : B ≤ B') : Sl w B' sz A n L := h.keep hB fun _ _ => rfl
theorem Sl.nil (w : World) (B sz : Nat) (A : Option Addr) : Sl w B sz A 0 [] := ⟨by simp, fun h => absurd h (Nat.lt_irrefl _)⟩
theorem Sl.of_own {w : World} {base e sz n c : Nat} {A : Option Addr} {L : List Value} (h : w.ownsRow base e sz (.slice A n c) n L) : Sl w w.heap.size sz A n L := by
  refine ⟨h.1, fun hn => ?_⟩
  rcases h.2 with ⟨_, h0⟩ | ⟨g, cap, cur, hv, hg, hh, hnc, hcm, hcs, ht⟩
  · omega
  · injection hv with hA
    refine ⟨g, 0, hA, (Array.getElem?_eq_some_iff.1 hh).1, fun i v hi => ?_⟩
    rw [← ht, List.getElem?_take] at hi
    split at hi
    · have : cur[i]? = some v := by rw [← Array.getElem?_toList]; exact hi
      simp [World.cell?, hh, this]
    · cases hi
theorem Sl.first {w : World} {B sz n : Nat} {A : Option Addr} {L : List Value} (h : Sl w B sz A n L) {k : Nat} (hk : k ≤ n) : Sl w B sz A k (L.take (k * sz)) := by
  refine ⟨by rw [List.length_take, h.1]; exact Nat.min_eq_left (Nat.mul_le_mul_right _ hk), fun h0 => ?_⟩
  obtain ⟨b, o, e, hb, hr⟩ := h.2 (by omega)
  exact ⟨b, o, e, hb, hr.take _⟩

/-- An own row stays owned where its block is unchanged. -/
theorem own_keep {w w' : World} {base e sz n c : Nat} {A : Option Addr} {L : List Value} (h : w.ownsRow base e sz (.slice A n c) n L) (hk : ∀ g o, A = some ⟨g, o, none⟩ → w'.heap[g]? = w.heap[g]?) : w'.ownsRow base e sz (.slice A n c) n L := by
  refine ⟨h.1, ?_⟩
  rcases h.2 with h0 | ⟨g, cap, cur, hv, hg, hh, r⟩
  · exact .inl h0
  · have hA : A = some ⟨g, 0, none⟩ := by injection hv
    exact .inr ⟨g, cap, cur, hv, hg, (hk g 0 hA).trans hh, r⟩

/-- What the slice type's table says: t is []e, an element has sz cells and `by_` bytes. -/
structure ElemT (P : Program) (t e : TypeId) (sz by_ : Nat) : Prop where
  ht : P.underlying t = some (.slice e)
  hi : ∃ i z, P.info? e = some i ∧ i.zero = some z ∧ i.size = sz ∧ i.bytes = by_ ∧ z.cells.size = sz
  pos : 0 < sz
theorem ElemT.mk' {P : Program} {t e : TypeId} {sz by_ : Nat} {z : Value} (ht : P.underlying t = some (.slice e)) (h : (P.info? e).map (fun i => (i.zero, i.size, i.bytes)) = some (some z, sz, by_)) (hz : z.cells.size = sz) (hp : 0 < sz) : ElemT P t e sz by_ := by
  obtain ⟨i, h1, h2, h3, h4⟩ := info_parts h
  exact ⟨ht, ⟨i, z, h1, h2, h3, h4, hz⟩, hp⟩

def blkOf : Option Addr → Option Nat
  | some a => some a.block
  | none => none

theorem grown_of_alloc {w w' : World} {o : Obj} {row : Option Nat} (h : (w.alloc o).grownBy w' row) : w.grownBy w' row :=
  ⟨h.os, h.tape, h.output, Nat.le_trans (by simp) h.size, fun k hk hne => (h.block k (by simp; omega) hne).trans (Below.heap_alloc w o k hk)⟩

section
variable {P : Program} {ops : Array Oper} {rest : List Oper} {o : Oper} {a : Act} {Q : Exit → Act → World → Prop} {w : World}

/-- 's = append(s, x)', x one element that lies in the newest block. -/
theorem run_append_one {t ty e sz by_ : Nat} (T : ElemT P t e sz by_) {base : Nat} {A : Option Addr} {n c : Nat} {L : List Value} (hown : w.ownsRow base e sz (.slice A n c) n L)
    (cs : Array Value) (hl : cs.size = sz) (h1 : ∀ u ∈ cs.toList, u.oneCell' = true) (h63 : n + 1 ≤ maxLen) (hb : (n + 1) * by_ ≤ 140737488355328) (hbase : base ≤ w.heap.size) :
    ∃ g c' w', (Builtin.append_ #[t, t] ty #[.slice A n c, .slice (some ⟨w.heap.size, 0, none⟩) 1 1]).run P (w.alloc (.cells cs e)) = .ok (.slice (some ⟨g, 0, none⟩) (n + 1) c') w' ∧
      w'.ownsRow base e sz (.slice (some ⟨g, 0, none⟩) (n + 1) c') (n + 1) (L ++ cs.toList) ∧ w.grownBy w' (blkOf A) ∧ (blkOf A = some g ∨ w.heap.size < g) := by
  obtain ⟨i, z, h2, h3, h4, h5, h6⟩ := T.hi
  have hown' : (w.alloc (.cells cs e)).ownsRow base e sz (.slice A n c) n L := hown.alloc _
  obtain ⟨v', w', hrun, ho, hg, hnil, hat⟩ := run_append_own_at (P := P) (w.alloc (.cells cs e)) base t ty e i z sz by_ T.ht h2 h3 h4 h5 h6 T.pos (.slice A n c) n L hown' ⟨w.heap.size, 0, none⟩ 1 1 cs.toList (by simp [hl])
    (fun j u hu => by
      have e1 : (⟨w.heap.size, 0, none⟩ : Addr).add j = ⟨w.heap.size, j, none⟩ := by unfold Addr.add; split <;> simp_all
      rw [e1]
      have : cs[j]? = some u := by rw [← Array.getElem?_toList]; exact hu
      unfold World.cell?
      rw [show (⟨w.heap.size, j, none⟩ : Addr).block = w.heap.size from rfl, heap_alloc_new]
      simpa using this) h1 h63 hb (by simp; omega)
  obtain ⟨g, cap, rfl⟩ : ∃ g cap, v' = .slice (some ⟨g, 0, none⟩) (n + 1) cap := by
    rcases ho.2 with ⟨_, h⟩ | ⟨g, cap, _, h, _⟩
    · omega
    · exact ⟨g, cap, h⟩
  refine ⟨g, cap, w', hrun, ho, ?_, ?_⟩
  · have : (Value.slice A n c).ownBlock = blkOf A := by cases A <;> rfl
    rw [this] at hg
    exact grown_of_alloc hg
  · rcases hat with h | h
    · left
      cases A <;> simp_all [Value.ownBlock, blkOf]
    · right
      simp [Value.ownBlock] at h
      omega

theorem wpList_append_one (hgd : o.guard = none) (s x : Operand) (t : TypeId) (ho : o.op = .call { callee := .builtin .append, args := #[s, x], argTypes := #[t, t] })
    {e sz by_ : Nat} (T : ElemT P t e sz by_) {base : Nat} {A : Option Addr} {n c : Nat} {L : List Value} (hs : a.eval s = .slice A n c) (hown : w.ownsRow base e sz (.slice A n c) n L)
    (cs : Array Value) {N : Nat} (hx : a.eval x = .slice (some ⟨N, 0, none⟩) 1 1) (hN : N = w.heap.size) (hl : cs.size = sz) (h1 : ∀ u ∈ cs.toList, u.oneCell' = true) (h63 : n + 1 ≤ maxLen) (hb : (n + 1) * by_ ≤ 140737488355328) (hbase : base ≤ w.heap.size)
    (h : ∀ g c' w', w'.ownsRow base e sz (.slice (some ⟨g, 0, none⟩) (n + 1) c') (n + 1) (L ++ cs.toList) → w.grownBy w' (blkOf A) → (blkOf A = some g ∨ w.heap.size < g) → wpList P ops Q rest (a.put o.dst (.slice (some ⟨g, 0, none⟩) (n + 1) c')) w') :
    wpList P ops Q (o :: rest) a (w.alloc (.cells cs e)) := by
  subst hN
  refine wpList_plain hgd fun K hK => ?_
  obtain ⟨g, c', w', hrun, h2, h3, h4⟩ := run_append_one (P := P) (w := w) (ty := o.type) T hown cs hl h1 h63 hb hbase
  unfold Oper.wp execOp
  simp only [ho, resolve, invoke, builtin, Sem.run_bind, Sem.run_pure, Result.andThen_ok, List.map_toArray, List.map_cons, List.map_nil, hs, hx, hrun]
  exact hK _ _ (h g c' w' h2 h3 h4)

theorem own_row {w : World} {base e sz g n c : Nat} {L : List Value} (h : w.ownsRow base e sz (.slice (some ⟨g, 0, none⟩) n c) n L) : RowAt w g 0 L ∧ base ≤ g ∧ g < w.heap.size ∧ n ≤ c ∧ c ≤ maxLen := by
  rcases h.2 with ⟨h', _⟩ | ⟨g', cap, cur, hv, hg, hh, hnc, hcm, hcs, ht⟩
  · cases h'
  · injection hv with hA _ hC
    injection hA with hA
    injection hA with hA
    subst hA hC
    refine ⟨fun i v hi => ?_, hg, (Array.getElem?_eq_some_iff.1 hh).1, hnc, hcm⟩
    rw [← ht, List.getElem?_take] at hi
    split at hi
    · have : cur[i]? = some v := by rw [← Array.getElem?_toList]; exact hi
      simp [World.cell?, hh, this]
    · cases hi
theorem add_at (g o j : Nat) : (⟨g, o, none⟩ : Addr).add j = ⟨g, o + j, none⟩ := by unfold Addr.add; split <;> simp_all
/-- 'append(s[:i], s[j:]...)' on a row of the call's own. -/
theorem run_append_cut {t ty e sz by_ : Nat} (T : ElemT P t e sz by_) {base g n c i j : Nat} {L : List Value} (hown : w.ownsRow base e sz (.slice (some ⟨g, 0, none⟩) n c) n L)
    (hij : i ≤ j) (hj : j ≤ n) (ad : Addr) (had : j < n → ad = ⟨g, j * sz, none⟩) (cs : Nat) (h1 : ∀ u ∈ L, u.oneCell' = true) :
    ∃ w', (Builtin.append_ #[t, t] ty #[.slice (some ⟨g, 0, none⟩) i c, .slice (some ad) (n - j) cs]).run P w = .ok (.slice (some ⟨g, 0, none⟩) (i + (n - j)) c) w' ∧
      w'.ownsRow base e sz (.slice (some ⟨g, 0, none⟩) (i + (n - j)) c) (i + (n - j)) (L.take (i * sz) ++ L.drop (j * sz)) ∧ w.grownBy w' (some g) := by
  obtain ⟨hrow, hbg, hlt, hnc, hcm⟩ := own_row hown
  obtain ⟨ti, z, h2, h3, h4, h5, h6⟩ := T.hi
  have hL := hown.1
  have hpre : w.ownsRow base e sz (.slice (some ⟨g, 0, none⟩) i c) i (L.take (i * sz)) := by
    have hi : i * sz ≤ n * sz := Nat.mul_le_mul_right _ (by omega)
    refine ⟨by rw [List.length_take, hL]; exact Nat.min_eq_left hi, ?_⟩
    rcases hown.2 with ⟨h', _⟩ | ⟨g', cap, cur, hv, hg, hh, hnc', hcm', hcs, ht⟩
    · cases h'
    · injection hv with hA _ hC
      injection hA with hA
      injection hA with hA
      subst hA hC
      exact .inr ⟨g, c, cur, rfl, hg, hh, by omega, hcm', hcs, by rw [← ht, List.take_take, Nat.min_eq_left hi]⟩
  refine run_append_fits (P := P) w base t ty e ti sz T.ht h2 h4 g i c _ hpre ad (n - j) cs (L.drop (j * sz)) (by rw [List.length_drop, hL, Nat.sub_mul]) (fun k u hk => ?_) (fun u hu => h1 u (List.mem_of_mem_drop hu)) (by omega)
  rw [List.getElem?_drop] at hk
  have hlt2 : j * sz + k < L.length := (List.getElem?_eq_some_iff.1 hk).1
  have hjn : j < n := by
    rcases Nat.lt_or_ge j n with h | h
    · exact h
    · exfalso
      have : n * sz ≤ j * sz := Nat.mul_le_mul_right _ h
      omega
  rw [had hjn, add_at]
  have := hrow _ _ hk
  simpa using this
theorem wpList_append_cut (hgd : o.guard = none) (s x : Operand) (t : TypeId) (ho : o.op = .call { callee := .builtin .append, args := #[s, x], argTypes := #[t, t] })
    {e sz by_ : Nat} (T : ElemT P t e sz by_) {base g n c i m j : Nat} {L : List Value} (hs : a.eval s = .slice (some ⟨g, 0, none⟩) i c) (hown : w.ownsRow base e sz (.slice (some ⟨g, 0, none⟩) n c) n L)
    (ad : Addr) (cs : Nat) (hx : a.eval x = .slice (some ad) m cs) (hm : m = n - j) (hij : i ≤ j) (hj : j ≤ n) (had : j < n → ad = ⟨g, j * sz, none⟩) (h1 : ∀ u ∈ L, u.oneCell' = true)
    (h : ∀ w', w'.ownsRow base e sz (.slice (some ⟨g, 0, none⟩) (i + m) c) (i + m) (L.take (i * sz) ++ L.drop (j * sz)) → w.grownBy w' (some g) → wpList P ops Q rest (a.put o.dst (.slice (some ⟨g, 0, none⟩) (i + m) c)) w') :
    wpList P ops Q (o :: rest) a w := by
  subst hm
  refine wpList_plain hgd fun K hK => ?_
  obtain ⟨w', hrun, h2, h3⟩ := run_append_cut (P := P) (w := w) (ty := o.type) T hown hij hj ad had cs h1
  unfold Oper.wp execOp
  simp only [ho, resolve, invoke, builtin, Sem.run_bind, Sem.run_pure, Result.andThen_ok, List.map_toArray, List.map_cons, List.map_nil, hs, hx, hrun]
  exact hK _ _ (h w' h2 h3)

/-- 'copy(s[k:], x)' into a row of the call's own: m elements. -/
theorem run_copy_at {dT sT ty e sz by_ : Nat} (T : ElemT P dT e sz by_) {base g n c k m : Nat} {L news : List Value} (hown : w.ownsRow base e sz (.slice (some ⟨g, 0, none⟩) n c) n L)
    (dLen dCap : Nat) (ad : Addr) (sLen sCap : Nat) (hm : m = Nat.min sLen dLen) (hkm : k + m ≤ n) (hnews : news.length = m * sz) (hsrc : ∀ j v, news[j]? = some v → w.cell? (ad.add j) = some v) (h1 : ∀ v ∈ news, v.oneCell' = true) :
    ∃ w', (Builtin.copy_ #[dT, sT] ty #[.slice (some ⟨g, k * sz, none⟩) dLen dCap, .slice (some ad) sLen sCap]).run P w = .ok (goInt m) w' ∧
      w'.ownsRow base e sz (.slice (some ⟨g, 0, none⟩) n c) n (L.take (k * sz) ++ news ++ L.drop ((k + m) * sz)) ∧ w.grownBy w' (some g) := by
  obtain ⟨ti, z, h2, h3, h4, h5, h6⟩ := T.hi
  subst hm
  have hL := hown.1
  rcases hown.2 with ⟨h', _⟩ | ⟨g', cap, cur, hv, hg, hh, hnc, hcm, hcs, ht⟩
  · cases h'
  · injection hv with hA _ hC
    injection hA with hA
    injection hA with hA
    subst hA hC
    have hk1 : (k + Nat.min sLen dLen) * sz ≤ n * sz := Nat.mul_le_mul_right _ hkm
    have hk2 : n * sz ≤ c * sz := Nat.mul_le_mul_right _ hnc
    have hk3 : (k + Nat.min sLen dLen) * sz = k * sz + Nat.min sLen dLen * sz := Nat.add_mul _ _ _
    have hl := run_loadCells_list (P := P) w ad news hsrc
    have hst := run_storeCells_at P g (k * sz) e news 0 cur w hh (by omega) h1
    refine ⟨w.setRow g (cur.toList.take (k * sz) ++ news ++ cur.toList.drop (k * sz + news.length)).toArray, ?_, ⟨?_, .inr ⟨g, c, _, rfl, hg, setRow_heap w g cur _ e _ hh, hnc, hcm, ?_, ?_⟩⟩, ⟨rfl, rfl, rfl, by simp, fun q _ hq => setRow_other w g q _ (fun e => hq (by simp [e]))⟩⟩
    · rw [hnews] at hl hst
      simp only [Nat.add_zero] at hst
      rw [← hnews] at hst
      subst h4
      simp [Builtin.copy_, run_underlying T.ht, Builtin.lenOf, Builtin.firstCells, sizeOf, typeInfo, h2, hl, hst]
    · simp only [List.length_append, List.length_take, List.length_drop, hL, hnews]
      omega
    · simp only [List.size_toArray, List.length_append, List.length_take, List.length_drop, Array.length_toList]
      omega
    · have hlen : (cur.toList.take (k * sz) ++ news).length = (k + Nat.min sLen dLen) * sz := by
        rw [List.length_append, List.length_take, Array.length_toList, hnews]; omega
      have e1 : n * sz = (k + Nat.min sLen dLen) * sz + (n * sz - (k + Nat.min sLen dLen) * sz) := by omega
      rw [e1, ← hlen, List.take_length_add_append, ← ht, List.take_take, Nat.min_eq_left (by omega), List.drop_take, hnews, ← hk3]
      rw [hlen]
theorem wpList_copy_at (hgd : o.guard = none) (d s : Operand) (dT sT : TypeId) (ho : o.op = .call { callee := .builtin .copy, args := #[d, s], argTypes := #[dT, sT] })
    {e sz by_ : Nat} (T : ElemT P dT e sz by_) {base g n c : Nat} {L : List Value} (hown : w.ownsRow base e sz (.slice (some ⟨g, 0, none⟩) n c) n L) (k m off dLen dCap : Nat) (news : List Value)
    (hd : a.eval d = .slice (some ⟨g, off, none⟩) dLen dCap) (hoff : off = k * sz) (ad : Addr) (sLen sCap : Nat) (hs : a.eval s = .slice (some ad) sLen sCap) (hm : m = Nat.min sLen dLen) (hkm : k + m ≤ n) (hnews : news.length = m * sz)
    (hsrc : ∀ j v, news[j]? = some v → w.cell? (ad.add j) = some v) (h1 : ∀ v ∈ news, v.oneCell' = true)
    (h : ∀ w', w'.ownsRow base e sz (.slice (some ⟨g, 0, none⟩) n c) n (L.take (k * sz) ++ news ++ L.drop ((k + m) * sz)) → w.grownBy w' (some g) → wpList P ops Q rest (a.put o.dst (goInt m)) w') :
    wpList P ops Q (o :: rest) a w := by
  subst hoff
  refine wpList_plain hgd fun K hK => ?_
  obtain ⟨w', hrun, h2, h3⟩ := run_copy_at (P := P) (w := w) (sT := sT) (ty := o.type) T hown dLen dCap ad sLen sCap hm hkm hnews hsrc h1
  unfold Oper.wp execOp
  simp only [ho, resolve, invoke, builtin, Sem.run_bind, Sem.run_pure, Result.andThen_ok, List.map_toArray, List.map_cons, List.map_nil, hd, hs, hrun]
  exact hK _ _ (h w' h2 h3)
theorem wpList_copy_none (hgd : o.guard = none) (d s : Operand) (dT sT : TypeId) (ho : o.op = .call { callee := .builtin .copy, args := #[d, s], argTypes := #[dT, sT] })
    {e sz by_ : Nat} (T : ElemT P dT e sz by_) (dp : Option Addr) (dLen dCap : Nat) (hd : a.eval d = .slice dp dLen dCap) (hs : a.eval s = .slice none 0 0)
    (h : wpList P ops Q rest (a.put o.dst (goInt 0)) w) : wpList P ops Q (o :: rest) a w := by
  obtain ⟨ti, z, h2, h3, h4, h5, h6⟩ := T.hi
  refine wpList_plain hgd fun K hK => ?_
  have hrun : (Builtin.copy_ #[dT, sT] o.type #[.slice dp dLen dCap, .slice none 0 0]).run P w = .ok (goInt 0) w := by
    cases dp <;> simp [Builtin.copy_, run_underlying T.ht, Builtin.lenOf, Builtin.firstCells, sizeOf, typeInfo, h2, storeCells]
  unfold Oper.wp execOp
  simp only [ho, resolve, invoke, builtin, Sem.run_bind, Sem.run_pure, Result.andThen_ok, List.map_toArray, List.map_cons, List.map_nil, hd, hs, hrun]
  exact hK _ _ h

/-- A whole struct or array stored into the newest block. -/
theorem wpList_store_new (hgd : o.guard = none) (ty : TypeId) (x y : Operand) (ho : o.op = .store ty x y) (t : TypeId) (old cells : Array Value)
    (hx : a.eval x = .pointer (some ⟨w.heap.size, 0, none⟩)) (hy : a.eval y = .agg cells) (hi : (P.info? ty).map (·.size) = some cells.size) (hold : old.size = cells.size) (h1 : cells.all (·.oneCell') = true)
    (h : wpList P ops Q rest (a.put o.dst undef) (w.alloc (.cells cells t))) : wpList P ops Q (o :: rest) a (w.alloc (.cells old t)) := by
  refine wpList_store_row hgd ty x y ho w.heap.size cells hx hy t old (heap_alloc_new w _) hi hold h1 ?_
  have e : (w.alloc (.cells old t)).setRow w.heap.size cells = w.alloc (.cells cells t) := by
    unfold World.setRow World.alloc
    congr 1
    apply Array.ext
    · simp
    · intro k h1 h2
      have hk2 : k < w.heap.size + 1 := by simpa using h2
      simp only [Array.getElem_modify, Array.getElem_push]
      by_cases hk : w.heap.size = k
      · subst hk; simp
      · have hk3 : k < w.heap.size := by omega
        simp [hk, hk3]
  rw [e]
  exact h
end
/-- One result, which lies in memory. -/
theorem results_cell1 {fn : Func} {p : Tmp} {ty : TypeId} (h : fn.results = #[.cell p ty]) (tmps : Array Value) (P : Program) (w : World) :
    (results fn tmps).run P w = ((asAddr (tmps.getD p undef)).run P w).andThen fun a w₁ => (loadVar ty a).run P w₁ := by
  simp only [results, h]
  simp [Sem.run_bind, Result.andThen]
theorem ret_cell1 {P : Program} {fn : Func} {p : Tmp} {ty : TypeId} {R : Ending → World → Prop} {a : Act} {w : World} {ad : Addr} {v : Value} (h : fn.results = #[.cell p ty]) (hp : a.tmps.getD p undef = .pointer (some ad))
    (hl : (loadVar ty ad).run P w = .ok v w) (hd : a.defers = []) (hR : R (.returned v) w) : bodyPost P fn R .ret a w :=
  bodyPost_ret (by rw [results_cell1 h, hp]; simp [asAddr, hl]) hd hR
/-- Block g is the cells cs. -/
def Blk (w : World) (g : Nat) (t : TypeId) (cs : Array Value) : Prop := w.heap[g]? = some (.cells cs t (0, 0))
theorem Blk.lt {w : World} {g : Nat} {t : TypeId} {cs : Array Value} (h : Blk w g t cs) : g < w.heap.size := (Array.getElem?_eq_some_iff.1 h).1
theorem Blk.cell {w : World} {g : Nat} {t : TypeId} {cs : Array Value} (h : Blk w g t cs) (i : Nat) : w.cell? ⟨g, i, none⟩ = cs[i]? := by
  unfold Blk at h
  simp [World.cell?, h]
theorem Blk.frozen {w : World} {g : Nat} {t : TypeId} {cs : Array Value} (h : Blk w g t cs) (i : Nat) : w.frozen? ⟨g, i, none⟩ = false := by
  unfold Blk at h
  simp [World.frozen?, h]
theorem Blk.keep {w w' : World} {g : Nat} {t : TypeId} {cs : Array Value} (h : Blk w g t cs) (hk : w'.heap[g]? = w.heap[g]?) : Blk w' g t cs := hk.trans h
theorem Blk.below {w w' : World} {g B : Nat} {t : TypeId} {cs : Array Value} (h : Blk w g t cs) (hb : Below B w w') (hg : g < B) : Blk w' g t cs := h.keep (hb.block g hg)
theorem Blk.alloc {w : World} {g : Nat} {t : TypeId} {cs : Array Value} (h : Blk w g t cs) (o : Obj) : Blk (w.alloc o) g t cs := h.keep (Below.heap_alloc w o g h.lt)
theorem Blk.new (w : World) (t : TypeId) (cs : Array Value) : Blk (w.alloc (.cells cs t)) w.heap.size t cs := heap_alloc_new w _
theorem Blk.grown {w w' : World} {g : Nat} {t : TypeId} {cs : Array Value} {row : Option Nat} (h : Blk w g t cs) (hb : w.grownBy w' row) (hg : some g ≠ row) : Blk w' g t cs := h.keep (hb.block g h.lt hg)
/-- Blocks of unlike element types are two. -/
theorem Blk.ne_own {w : World} {g g' base e sz n c : Nat} {t : TypeId} {cs : Array Value} {L : List Value} (h : Blk w g t cs) (ho : w.ownsRow base e sz (.slice (some ⟨g', 0, none⟩) n c) n L) (hne : t ≠ e) : g ≠ g' := by
  rintro rfl
  rcases ho.2 with ⟨h', _⟩ | ⟨g2, _, _, h', _, hh, _⟩
  · cases h'
  · injection h' with h'; injection h' with h'; injection h' with h' _; subst h'
    unfold Blk at h
    rw [h] at hh
    injection hh with hh
    injection hh with _ hh
    exact hne hh
theorem grown_any {w w' : World} {row : Option Nat} (h : w.grownBy w' none) : w.grownBy w' row := ⟨h.os, h.tape, h.output, h.size, fun k hk _ => h.block k hk (by simp)⟩
end Go.Proofs.YtgeiegjpnnbloaaDoor

namespace Go.Proofs.YtgeiegjpnnbloaaDoor
open Go.RowKit

section
variable {α : Type} {f : α → List Value} {sz : Nat}
theorem flat_length (hf : ∀ x, (f x).length = sz) (xs : List α) : (xs.flatMap f).length = xs.length * sz := by
  induction xs with
  | nil => simp
  | cons x xs ih => rw [List.flatMap_cons, List.length_append, hf, ih, List.length_cons, Nat.succ_mul]; omega
theorem flat_drop (hf : ∀ x, (f x).length = sz) (xs : List α) (k : Nat) : (xs.flatMap f).drop (k * sz) = (xs.drop k).flatMap f := by
  induction xs generalizing k with
  | nil => simp
  | cons x xs ih =>
    cases k with
    | zero => simp
    | succ k => rw [List.flatMap_cons, List.drop_succ_cons, ← ih, show (k + 1) * sz = sz + k * sz by rw [Nat.succ_mul]; omega, ← List.drop_drop, show (f x ++ xs.flatMap f).drop sz = xs.flatMap f by rw [← hf x]; exact List.drop_left]
theorem flat_take (hf : ∀ x, (f x).length = sz) (xs : List α) (k : Nat) : (xs.flatMap f).take (k * sz) = (xs.take k).flatMap f := by
  induction xs generalizing k with
  | nil => simp
  | cons x xs ih =>
    cases k with
    | zero => simp
    | succ k => rw [List.take_succ_cons, List.flatMap_cons, List.flatMap_cons, ← ih, show (k + 1) * sz = (f x).length + k * sz by rw [Nat.succ_mul, hf]; omega, List.take_length_add_append]
theorem flat_get (hf : ∀ x, (f x).length = sz) {xs : List α} {k : Nat} {x : α} (hk : xs[k]? = some x) {j : Nat} (hj : j < sz) : (xs.flatMap f)[k * sz + j]? = (f x)[j]? := by
  have h1 : ((xs.flatMap f).drop (k * sz))[j]? = (xs.flatMap f)[k * sz + j]? := by rw [List.getElem?_drop]
  obtain ⟨hlt, he⟩ := List.getElem?_eq_some_iff.1 hk
  rw [← h1, flat_drop hf, List.drop_eq_getElem_cons hlt, he, List.flatMap_cons, List.getElem?_append_left (by rw [hf]; exact hj)]
theorem RowAt.get (hf : ∀ x, (f x).length = sz) {w : World} {b o : Nat} {xs : List α} (h : RowAt w b o (xs.flatMap f)) {k : Nat} {x : α} (hk : xs[k]? = some x) {j : Nat} {v : Value} (hv : (f x)[j]? = some v) : w.cell? ⟨b, o + k * sz + j, none⟩ = some v := by
  have hj : j < sz := by rw [← hf x]; exact (List.getElem?_eq_some_iff.1 hv).1
  have := h (k * sz + j) v ((flat_get hf hk hj).trans hv)
  rwa [← Nat.add_assoc] at this
/-- The k-th of a slice that reads as such a list. -/
theorem Sl.get (hf : ∀ x, (f x).length = sz) {w : World} {B n : Nat} {A : Option Addr} {xs : List α} (h : Sl w B sz A n (xs.flatMap f)) (hn : xs.length = n) {k : Nat} (hk : k < n) :
    ∃ b o x, A = some ⟨b, o, none⟩ ∧ b < B ∧ xs[k]? = some x ∧ ∀ j v, (f x)[j]? = some v → w.cell? ⟨b, o + k * sz + j, none⟩ = some v := by
  obtain ⟨b, o, rfl, hb, hrow⟩ := h.2 (by omega)
  obtain ⟨x, hx⟩ : ∃ x, xs[k]? = some x := ⟨xs[k]'(by omega), List.getElem?_eq_getElem _⟩
  exact ⟨b, o, x, rfl, hb, hx, fun j v hv => hrow.get hf hx hv⟩
end
theorem take_snoc' {α : Type} {l : List α} {k : Nat} {x : α} (h : l[k]? = some x) : l.take (k + 1) = l.take k ++ [x] := by
  rw [List.take_add_one, h]; rfl
theorem drop_at' {α : Type} {l : List α} {k : Nat} {x : α} (h : l[k]? = some x) : l.drop k = x :: l.drop (k + 1) := by
  obtain ⟨hlt, he⟩ := List.getElem?_eq_some_iff.1 h
  rw [List.drop_eq_getElem_cons hlt, he]
end Go.Proofs.YtgeiegjpnnbloaaDoor

namespace Go.Proofs.YtgeiegjpnnbloaaDoor
open Go.RowKit

section
variable {P : Program} {ops : Array Oper} {Q : Exit → Act → World → Prop} {S : World → Prop}

def wpOrd (P : Program) (ops : Array Oper) (Q : Exit → Act → World → Prop) (S : World → Prop) : List (Nat × Bool) → Act → World → Prop
  | [], a, w => Q .normal a w
  | (i, q) :: r, a, w =>
    match ops[i]? with
    | none => False
    | some o =>
      if q = true then ∃ v, YieldsIf P ops S o v a ∧ wpOrd P ops Q S r (a.put o.dst v) w
      else wpList P ops (Exit.then (fun a' w' => S w' ∧ wpOrd P ops Q S r a' w') Q) [o] a w

def ordB (ops : Array Oper) : List (Nat × Bool) → Array Bool → Bool
  | [], listed => (Region.ready .any ops listed).isEmpty
  | (i, true) :: r, listed => (Region.ready .any ops listed).contains i && Region.free .any ops listed i && ordB ops r (listed.setIfInBounds i true)
  | (i, false) :: r, listed => decide (Region.ready .any ops listed = [i]) && ordB ops r (listed.setIfInBounds i true)

theorem wp_then {o : Oper} {a : Act} {w : World} {K K' : Act → World → Prop} (h : o.wp P a w K (Exit.then K' Q)) : o.wp P a w K Q := by
  unfold Oper.wp at *
  generalize (execOp a.eval o).run P w = r at *
  cases r with
  | ok n w' => cases n <;> exact h
  | halt x w' => cases x <;> exact h

theorem wpAnyH_of_ord (hsel : Region.noSelect ops = true) (hQ : ∀ c a d v w, Q (.panic c) (a.put d v) w → Q (.panic c) a w) :
    ∀ (l : List (Nat × Bool)) (listed : Array Bool) (a : Act) (w : World), ordB ops l listed = true → S w → wpOrd P ops Q S l a w → wpAnyH P .any ops Q S l.length listed a w
  | [], listed, a, w, hB, _, h => wpAnyH_done (by simpa [ordB] using hB) h 0
  | (i, true) :: r, listed, a, w, hB, hS, h => by
    simp only [ordB, Bool.and_eq_true] at hB
    obtain ⟨⟨hr, hf⟩, hB'⟩ := hB
    simp only [wpOrd] at h
    cases ho : ops[i]? with
    | none => simp [ho] at h
    | some o =>
      simp only [ho, if_true] at h
      obtain ⟨v, hy, hn⟩ := h
      exact wpAnyH_take ho hsel hf hr (fun c a w => hQ c a _ _ w) hy hS (wpAnyH_of_ord hsel hQ r _ _ w hB' hS hn)
  | (i, false) :: r, listed, a, w, hB, hS, h => by
    simp only [ordB, Bool.and_eq_true, decide_eq_true_eq] at hB
    obtain ⟨hr, hB'⟩ := hB
    simp only [wpOrd, Bool.false_eq_true, if_false] at h
    refine wpAnyH_all hr (by simp) ?_
    intro j hj
    have hji : j = i := by simpa using hj
    subst hji
    unfold wpOp
    cases ho : ops[j]? with
    | none => simp [ho] at h
    | some o =>
      simp only [ho, wpList] at h ⊢
      split
      · rename_i hw
        simp only [hw, if_true] at h
        exact h.imp (fun h => Oper.wp_mono (fun a' w' h' => ⟨h'.1, wpAnyH_of_ord hsel hQ r _ _ w' hB' h'.1 h'.2⟩) (wp_then h)) id
      · rename_i hw
        simp only [hw] at h
        exact ⟨h.1, wpAnyH_of_ord hsel hQ r _ _ w hB' h.1 h.2⟩

theorem wp_region_ord {id : Nat} {a : Act} {w : World} {l : List Oper} (S : World → Prop) (pi : List (Nat × Bool)) (hm : P.follows .mixedOrders = true)
    (hB : (Region.noSelect l.toArray && ordB l.toArray pi (Array.replicate l.toArray.size false) && decide (pi.length = l.toArray.size)) = true)
    (hQ : ∀ c a d v w, Q (.panic c) (a.put d v) w → Q (.panic c) a w) (hS : S w.drew) (h : wpOrd P l.toArray Q S pi a w.drew) : (Code.region id l.toArray true).wp P Q a w := by
  simp only [Bool.and_eq_true, decide_eq_true_eq] at hB
  refine wp_region_held (S := S) hm ?_
  have := wpAnyH_of_ord hB.1.1 hQ pi _ a _ hB.1.2 hS h
  rwa [hB.2] at this

theorem ord_q {i : Nat} {o : Oper} {r : List (Nat × Bool)} {a : Act} {w : World} {v : Value} (ho : ops[i]? = some o) (hw : Region.wanted o (yielded ops a.tmps) = true)
    (hy : ∀ w', S w' → (execOp a.eval o).run P w' = .ok (.value v) w') (h : wpOrd P ops Q S r (a.put o.dst v) w) : wpOrd P ops Q S ((i, true) :: r) a w := by
  simp only [wpOrd, ho, if_true]
  exact ⟨v, .inl ⟨hw, hy⟩, h⟩
theorem ord_q_move {i : Nat} {o : Oper} {r : List (Nat × Bool)} {a : Act} {w : World} (x : Operand) (ho : ops[i]? = some o) (hw : Region.wanted o (yielded ops a.tmps) = true) (hop : o.op = .move x)
    (h : wpOrd P ops Q S r (a.put o.dst (a.eval x)) w) : wpOrd P ops Q S ((i, true) :: r) a w :=
  ord_q ho hw (fun w' _ => by unfold execOp; simp [hop]) h
theorem ord_q_skip {i : Nat} {o : Oper} {r : List (Nat × Bool)} {a : Act} {w : World} (ho : ops[i]? = some o) (hw : Region.wanted o (yielded ops a.tmps) = false)
    (h : wpOrd P ops Q S r (a.put o.dst undef) w) : wpOrd P ops Q S ((i, true) :: r) a w := by
  simp only [wpOrd, ho, if_true]
  exact ⟨undef, .inr ⟨hw, rfl⟩, h⟩
theorem ord_e {i : Nat} {o : Oper} {r : List (Nat × Bool)} {a : Act} {w : World} (ho : ops[i]? = some o)
    (h : ∀ K : Act → World → Prop, Shut (∀ a' w', S w' → wpOrd P ops Q S r a' w' → K a' w') → wpList P ops (Exit.then K Q) [o] a w) : wpOrd P ops Q S ((i, false) :: r) a w := by
  simp only [wpOrd, ho, Bool.false_eq_true, if_false]
  exact h _ (fun a' w' h1 h2 => ⟨h1, h2⟩)
theorem ord_done {a : Act} {w : World} (h : Q .normal a w) : wpOrd P ops Q S [] a w := h
end

/-! The same where S says: below the heap's size at the region's head all blocks but `row` are as they were. -/
section
variable {P : Program} {ops : Array Oper} {Q : Exit → Act → World → Prop}

theorem grown_drew (w : World) (row : Option Nat) : w.grownBy w.drew row := ⟨rfl, rfl, rfl, Nat.le_refl _, fun _ _ _ => rfl⟩
theorem grown_trans {a b c : World} {row : Option Nat} (h : a.grownBy b row) (k : b.grownBy c row) : a.grownBy c row :=
  ⟨k.os.trans h.os, k.tape.trans h.tape, k.output.trans h.output, Nat.le_trans h.size k.size, fun i hi hr => (k.block i (Nat.lt_of_lt_of_le hi h.size) hr).trans (h.block i hi hr)⟩
theorem grown_below {a b : World} {B : Nat} {row : Option Nat} (h : Below B a b) (hB : a.heap.size ≤ B) : a.grownBy b row :=
  ⟨h.os, h.tape, h.output, h.size, fun i hi _ => h.block i (by omega)⟩
theorem below_grown {a b : World} {B : Nat} {row : Option Nat} (h : a.grownBy b row) (hB : B ≤ a.heap.size) (hr : ∀ g, row = some g → B ≤ g) : Below B a b :=
  ⟨h.os, h.tape, h.output, h.size, fun i hi => h.block i (by omega) (fun e => by have := hr i e.symm; omega)⟩

theorem wp_region_ordB {id : Nat} {a : Act} {w : World} {l : List Oper} (row : Option Nat) (pi : List (Nat × Bool)) (hm : P.follows .mixedOrders = true)
    (hB : (Region.noSelect l.toArray && ordB l.toArray pi (Array.replicate l.toArray.size false) && decide (pi.length = l.toArray.size)) = true)
    (h : w.grownBy w.drew row → wpOrd P l.toArray (NoPanic Q) (fun w' => w.grownBy w' row) pi a w.drew) : (Code.region id l.toArray true).wp P Q a w :=
  wp_region_noPanic (wp_region_ord (fun w' => w.grownBy w' row) pi hm hB (fun _ _ _ _ _ h => h) (grown_drew w row) (h (grown_drew w row)))
/-- A region that does not draw goes in the order of its text: the same steps serve. -/
theorem wpOps_of_ord {S : World → Prop} : ∀ (l : List (Nat × Bool)) (a : Act) (w : World), S w → wpOrd P ops Q S l a w → wpOps P ops Q (l.map (·.1)) a w
  | [], _, _, _, h => h
  | (i, true) :: r, a, w, hS, h => by
    simp only [wpOrd] at h
    cases ho : ops[i]? with
    | none => simp [ho] at h
    | some o =>
      simp only [ho, if_true] at h
      obtain ⟨v, hy, hn⟩ := h
      have ih := wpOps_of_ord r _ w hS hn
      rw [List.map_cons, wpOps_cons]
      exact hy.wpOp ho hS ih
  | (i, false) :: r, a, w, hS, h => by
    simp only [wpOrd, Bool.false_eq_true, if_false] at h
    rw [List.map_cons, wpOps_cons]
    unfold wpOp
    cases ho : ops[i]? with
    | none => simp [ho] at h
    | some o =>
      simp only [ho, wpList] at h ⊢
      split
      · rename_i hw
        simp only [hw, if_true] at h
        exact h.imp (fun h => Oper.wp_mono (fun a' w' h' => wpOps_of_ord r _ w' h'.1 h'.2) (wp_then h)) id
      · rename_i hw
        simp only [hw] at h
        exact wpOps_of_ord r _ w h.1 h.2
theorem wp_region_textB {id : Nat} {a : Act} {w : World} {l : List Oper} (row : Option Nat) (pi : List (Nat × Bool))
    (hB : decide (pi.map (·.1) = List.range l.toArray.size) = true)
    (h : w.grownBy w row → wpOrd P l.toArray (NoPanic Q) (fun w' => w.grownBy w' row) pi a w) : (Code.region id l.toArray false).wp P Q a w := by
  have hS : w.grownBy w row := ⟨rfl, rfl, rfl, Nat.le_refl _, fun _ _ _ => rfl⟩
  refine wp_region_noPanic (wp_region ?_)
  rw [← of_decide_eq_true hB]
  exact wpOps_of_ord (S := fun w' => w.grownBy w' row) pi a w hS (h hS)
theorem ord_end {a : Act} {w : World} {S : World → Prop} (h : Q .normal a w) : wpOrd P ops (NoPanic Q) S [] a w := h

/-! The steps, at a region that is written out. -/
theorem ord_qB {l : List Oper} {i : Nat} {o : Oper} {r : List (Nat × Bool)} {a : Act} {w0 w : World} {row : Option Nat} {v : Value} (ho : l[i]? = some o) (hw : Region.wanted o (yielded l.toArray a.tmps) = true)
    (hy : ∀ w', (∀ b off, b < w0.heap.size → some b ≠ row → w'.cell? ⟨b, off, none⟩ = w0.cell? ⟨b, off, none⟩) → (execOp a.eval o).run P w' = .ok (.value v) w')
    (h : wpOrd P l.toArray Q (fun w' => w0.grownBy w' row) r (a.put o.dst v) w) : wpOrd P l.toArray Q (fun w' => w0.grownBy w' row) ((i, true) :: r) a w :=
  ord_q (by simpa using ho) hw (fun w' hS => hy w' fun b off hb hr => World.cell?_of_block (w := w0) (a := ⟨b, off, none⟩) (hS.block b hb hr)) h
theorem ord_qE {l : List Oper} {i : Nat} {o : Oper} {r : List (Nat × Bool)} {a : Act} {w0 w : World} {row : Option Nat} (ho : l[i]? = some o) (hw : Region.wanted o (yielded l.toArray a.tmps) = true)
    (h : ∃ v, (∀ w', (∀ b off, b < w0.heap.size → some b ≠ row → w'.cell? ⟨b, off, none⟩ = w0.cell? ⟨b, off, none⟩) → (execOp a.eval o).run P w' = .ok (.value v) w') ∧ wpOrd P l.toArray Q (fun w' => w0.grownBy w' row) r (a.put o.dst v) w) :
    wpOrd P l.toArray Q (fun w' => w0.grownBy w' row) ((i, true) :: r) a w :=
  let ⟨_, hy, hn⟩ := h
  ord_qB ho hw hy hn
theorem ord_qH {l : List Oper} {i : Nat} {o : Oper} {r : List (Nat × Bool)} {a : Act} {w0 w : World} {row : Option Nat} {v : Value} (ho : l[i]? = some o) (hw : Region.wanted o (yielded l.toArray a.tmps) = true)
    (hy : ∀ w', (∀ b, b < w0.heap.size → some b ≠ row → w'.heap[b]? = w0.heap[b]?) → (execOp a.eval o).run P w' = .ok (.value v) w')
    (h : wpOrd P l.toArray Q (fun w' => w0.grownBy w' row) r (a.put o.dst v) w) : wpOrd P l.toArray Q (fun w' => w0.grownBy w' row) ((i, true) :: r) a w :=
  ord_q (by simpa using ho) hw (fun w' hS => hy w' fun b hb hr => hS.block b hb hr) h
/-- A whole array or struct read out of a block that is known. -/
theorem exec_load_blk {o : Oper} {a : Act} {w : World} {ty : TypeId} {x : Operand} {g : Nat} {t : TypeId} {cs : Array Value} {d : TypeDesc} (ho : o.op = .load ty x) (hx : a.eval x = .pointer (some ⟨g, 0, none⟩)) (hb : Blk w g t cs)
    (hu : P.underlying ty = some d) (hd : (match d with | .struct _ | .array _ _ => true | _ => false) = true) (hi : (P.info? ty).map (·.size) = some cs.size) :
    (execOp a.eval o).run P w = .ok (.value (.agg cs)) w := by
  unfold execOp
  simp [ho, hx, Instr.loadAt, Instr.sureAddr, run_loadVar_row w g t ty cs (0, 0) d hb hu hd hi]
theorem ord_moveB {l : List Oper} {S : World → Prop} {i : Nat} {o : Oper} {r : List (Nat × Bool)} {a : Act} {w : World} {x : Operand} (ho : l[i]? = some o) (hw : Region.wanted o (yielded l.toArray a.tmps) = true)
    (hop : o.op = .move x ∨ o.op = .assign x) (h : wpOrd P l.toArray Q S r (a.put o.dst (a.eval x)) w) : wpOrd P l.toArray Q S ((i, true) :: r) a w :=
  ord_q (by simpa using ho) hw (fun w' _ => by unfold execOp; rcases hop with h | h <;> simp [h]) h
theorem ord_skipB {l : List Oper} {S : World → Prop} {i : Nat} {o : Oper} {r : List (Nat × Bool)} {a : Act} {w : World} (ho : l[i]? = some o) (hw : Region.wanted o (yielded l.toArray a.tmps) = false)
    (h : wpOrd P l.toArray Q S r (a.put o.dst undef) w) : wpOrd P l.toArray Q S ((i, true) :: r) a w := ord_q_skip (by simpa using ho) hw h
theorem ord_eB {l : List Oper} {S : World → Prop} {i : Nat} {o : Oper} {r : List (Nat × Bool)} {a : Act} {w : World} (ho : l[i]? = some o)
    (h : ∀ K : Act → World → Prop, Shut (∀ a' w', S w' → wpOrd P l.toArray Q S r a' w' → K a' w') → wpList P l.toArray (Exit.then K Q) [o] a w) : wpOrd P l.toArray Q S ((i, false) :: r) a w :=
  ord_e (by simpa using ho) h
end
/-- A scope with one label to which the run jumps back: what holds at every jump is J; a pass from the label on lowers the measure. -/
theorem wp_scope_J {P : Program} {Q : Exit → Act → World → Prop} {a : Act} {w : World} {c R : Code} (lb : Nat) (J : Act → World → Prop) (mu : Act → World → Nat) (hf : findLabel c lb = some (.seq .skip R))
    (pass : ∀ a w, J a w → R.wp P (Exit.jump lb (fun a' w' => J a' w' ∧ mu a' w' < mu a w) Q) a w)
    (first : (∀ a w, J a w → R.wp P (Exit.jump lb J Q) a w) → c.wp P (Exit.jump lb J Q) a w) : (Code.scope c).wp P Q a w :=
  wp_scope_jumps lb J mu hf (first fun a w hJ => Code.wp_mono (fun e a' w' h => by
    cases e <;> first | exact h | exact ⟨h.1, h.2.1⟩) (pass a w hJ)) (fun a w hJ => wp_seq (wp_skip (pass a w hJ)))
theorem wp_at_label {P : Program} {Q : Exit → Act → World → Prop} {a : Act} {w : World} {R : Code} {lb : Nat} (h : R.wp P Q a w) : (Code.seq (.label lb) R).wp P Q a w := wp_seq (wp_label h)
end Go.Proofs.YtgeiegjpnnbloaaDoor

namespace Go.Proofs.YtgeiegjpnnbloaaDoor
open Go.RowKit

section
variable {P : Program} {ops : Array Oper} {Q : Exit → Act → World → Prop} {S : World → Prop}

def wpAnyG (P : Program) (ops : Array Oper) (Q : Exit → Act → World → Prop) (S : World → Prop) (n : Nat) : Nat → Array Bool → Act → World → Prop
  | 0, listed, a, w => Region.ready .any ops listed = [] ∧ Q .normal a w
  | fuel + 1, listed, a, w =>
    (Region.ready .any ops listed = [] → Q .normal a w) ∧
    ∀ i ∈ Region.ready .any ops listed, wpOp P ops Q i (fun a' w' => (i < n → S w') ∧ wpAnyG P ops Q S n fuel (listed.setIfInBounds i true) a' w') a w
theorem wpAny_of_G {n : Nat} : ∀ (fuel : Nat) (listed : Array Bool) (a : Act) (w : World), wpAnyG P ops Q S n fuel listed a w → wpAny P .any ops Q fuel listed a w
  | 0, _, _, _, h => h
  | fuel + 1, _, _, _, h => ⟨h.1, fun i hi => wpOp_mono (fun a' w' h' => wpAny_of_G fuel _ a' w' h'.2) (h.2 i hi)⟩
theorem wpAnyG_first {n i : Nat} {oi : Oper} {v : Value} (hi : ops[i]? = some oi) (hsel : ∀ (j : Nat) (o : Oper) cs b, ops[j]? = some o → o.op ≠ .select cs b)
    (hQ : ∀ c a w, Q (.panic c) (a.put oi.dst v) w → Q (.panic c) a w) (hs : Region.sinkB .any ops n = true) (hc : Region.chainB .any ops n = true) (hn : n < ops.size) (hin : i < n) :
    ∀ (fuel : Nat) (listed : Array Bool) (a : Act) (w : World), HeadInv .any ops n listed →
      (∀ j oj, ops[j]? = some oj → j ≠ i → listed.getD j true = false → (∀ e ∈ oj.after, Region.binds .any e = true → e.on ≠ i) → oi.apart ops oj = true) →
      i ∈ Region.ready .any ops listed → YieldsIf P ops S oi v a → S w →
      wpAnyG P ops Q S n fuel (listed.setIfInBounds i true) (a.put oi.dst v) w → wpAnyG P ops Q S n (fuel + 1) listed a w := by
  intro fuel
  induction fuel with
  | zero =>
    intro listed a w _ _ hr hy hS H
    refine ⟨fun h => (by rw [h] at hr; cases hr), fun j hj => ?_⟩
    by_cases hji : j = i
    · subst hji; exact hy.wpOp hi hS ⟨fun _ => hS, H⟩
    · have := ready_mono hj hji
      rw [H.1] at this
      cases this
  | succ fuel ih =>
    intro listed a w inv hfree hr hy hS H
    refine ⟨fun h => (by rw [h] at hr; cases hr), fun j hj => ?_⟩
    by_cases hji : j = i
    · subst hji; exact hy.wpOp hi hS ⟨fun _ => hS, H⟩
    · have hun := (mem_ready.1 hr).1
      have hjn : j < n := by
        rcases Nat.lt_or_ge j n with h | h
        · exact h
        · exact absurd hj (tail_waits hs hc hn inv _ i rfl hin hun j h)
      have h1 := H.2 j (ready_mono hj hji)
      obtain ⟨hjun, oj, hoj, hall⟩ := mem_ready.1 hj
      have hnot : ∀ e ∈ oj.after, Region.binds .any e = true → e.on ≠ i := fun e he hb heq => by
        have h1 := hall e he hb
        have h0 := (mem_ready.1 hr).1
        rw [heq] at h1
        rcases Nat.lt_or_ge i listed.size with h' | h'
        · simp [h'] at h0 h1; rw [h0] at h1; cases h1
        · simp [Array.getElem?_eq_none h'] at h1
      have h2 := wpOp_putIf hoj (hfree j oj hoj hji hjun hnot) (fun cs b => hsel i oi cs b hi) (fun cs b => hsel j oj cs b hoj) hQ hy h1
      have hfree' : ∀ k ok, ops[k]? = some ok → k ≠ i → (listed.setIfInBounds j true).getD k true = false →
          (∀ e ∈ ok.after, Region.binds .any e = true → e.on ≠ i) → oi.apart ops ok = true := fun k ok hk hki hun hno => by
        refine hfree k ok hk hki ?_ hno
        by_cases hjk : j = k
        · subst hjk; exact hjun
        · rw [getD_set_ne true hjk] at hun; exact hun
      refine wpOp_mono (fun a' w' h3 => ⟨fun _ => h3.2.1 hjn, ih (listed.setIfInBounds j true) a' w' (inv.set hj hjn) hfree' (ready_mono hr (Ne.symm hji)) h3.1 (h3.2.1 hjn) ?_⟩) h2
      rw [Array.setIfInBounds_comm _ _ hji]
      exact h3.2.2
def TailQ (P : Program) (ops : Array Oper) (n : Nat) (Q : Exit → Act → World → Prop) : Exit → Act → World → Prop
  | .normal, a, w => wpOp P ops Q n (fun a' w' => Q .normal a' w') a w
  | e, a, w => Q e a w
def ordG (ops : Array Oper) (n : Nat) : List (Nat × Bool) → Array Bool → Bool
  | [], listed => decide (Region.ready .any ops listed = [n]) && (Region.ready .any ops (listed.setIfInBounds n true)).isEmpty
  | (i, true) :: r, listed => decide (i < n) && (Region.ready .any ops listed).contains i && Region.free .any ops listed i && ordG ops n r (listed.setIfInBounds i true)
  | (i, false) :: r, listed => decide (i < n) && decide (Region.ready .any ops listed = [i]) && ordG ops n r (listed.setIfInBounds i true)
theorem wp_tail {o : Oper} {n : Nat} {a : Act} {w : World} {K K' : Act → World → Prop} (h : o.wp P a w K (Exit.then K' (TailQ P ops n Q))) : o.wp P a w K Q := by
  unfold Oper.wp at *
  generalize (execOp a.eval o).run P w = r at *
  cases r with
  | ok n w' => cases n <;> exact h
  | halt x w' => cases x <;> exact h
theorem wpAnyG_of_ord {n : Nat} (hsel : Region.noSelect ops = true) (hQ : ∀ c a d v w, Q (.panic c) (a.put d v) w → Q (.panic c) a w) (hs : Region.sinkB .any ops n = true) (hc : Region.chainB .any ops n = true) (hn : n < ops.size) :
    ∀ (l : List (Nat × Bool)) (listed : Array Bool) (a : Act) (w : World), HeadInv .any ops n listed → ordG ops n l listed = true → S w → wpOrd P ops (TailQ P ops n Q) S l a w → wpAnyG P ops Q S n (l.length + 1) listed a w
  | [], listed, a, w, _, hB, _, h => by
    simp only [ordG, Bool.and_eq_true, decide_eq_true_eq, List.isEmpty_iff] at hB
    refine ⟨fun h0 => (by rw [hB.1] at h0; cases h0), fun j hj => ?_⟩
    rw [hB.1] at hj
    have hjn : j = n := by simpa using hj
    subst hjn
    exact wpOp_mono (fun a' w' h' => ⟨fun h => absurd h (Nat.lt_irrefl _), hB.2, h'⟩) (show wpOp P ops Q j _ a w from h)
  | (i, true) :: r, listed, a, w, inv, hB, hS, h => by
    simp only [ordG, Bool.and_eq_true, decide_eq_true_eq] at hB
    obtain ⟨⟨⟨hin, hr⟩, hf⟩, hB'⟩ := hB
    simp only [wpOrd] at h
    cases ho : ops[i]? with
    | none => simp [ho] at h
    | some o =>
      simp only [ho, if_true] at h
      obtain ⟨v, hy, hnn⟩ := h
      have hr' : i ∈ Region.ready .any ops listed := by simpa using hr
      exact wpAnyG_first ho (Region.noSelect_spec hsel) (fun c a w => hQ c a _ _ w) hs hc hn hin _ listed a w inv (Region.free_spec ho hf) hr' hy hS (wpAnyG_of_ord hsel hQ hs hc hn r _ _ w (inv.set hr' hin) hB' hS hnn)
  | (i, false) :: r, listed, a, w, inv, hB, hS, h => by
    simp only [ordG, Bool.and_eq_true, decide_eq_true_eq] at hB
    obtain ⟨⟨hin, hr⟩, hB'⟩ := hB
    simp only [wpOrd, Bool.false_eq_true, if_false] at h
    refine ⟨fun h0 => (by rw [hr] at h0; cases h0), fun j hj => ?_⟩
    have hj0 := hj
    rw [hr] at hj
    have hji : j = i := by simpa using hj
    subst hji
    unfold wpOp
    cases ho : ops[j]? with
    | none => simp [ho] at h
    | some o =>
      simp only [ho, wpList] at h ⊢
      split
      · rename_i hw
        simp only [hw, if_true] at h
        exact h.imp (fun h => Oper.wp_mono (fun a' w' h' => ⟨fun _ => h'.1, wpAnyG_of_ord hsel hQ hs hc hn r _ _ w' (inv.set hj0 hin) hB' h'.1 h'.2⟩) (wp_tail h)) id
      · rename_i hw
        simp only [hw] at h
        exact ⟨fun _ => h.1, wpAnyG_of_ord hsel hQ hs hc hn r _ _ w (inv.set hj0 hin) hB' h.1 h.2⟩
theorem wp_region_ordG {id : Nat} {a : Act} {w : World} {l : List Oper} (row : Option Nat) (pi : List (Nat × Bool)) (n : Nat) (hm : P.follows .mixedOrders = true)
    (hB : (Region.noSelect l.toArray && ordG l.toArray n pi (Array.replicate l.toArray.size false) && Region.sinkB .any l.toArray n && Region.chainB .any l.toArray n && decide (n < l.toArray.size) && decide (pi.length + 1 = l.toArray.size)) = true)
    (h : w.grownBy w.drew row → wpOrd P l.toArray (TailQ P l.toArray n (NoPanic Q)) (fun w' => w.grownBy w' row) pi a w.drew) : (Code.region id l.toArray true).wp P Q a w := by
  simp only [Bool.and_eq_true, decide_eq_true_eq] at hB
  obtain ⟨⟨⟨⟨⟨h1, h2⟩, h3⟩, h4⟩, h5⟩, h6⟩ := hB
  refine wp_region_noPanic (wp_region_any hm (wpAny_of_G (n := n) (Q := NoPanic Q) (S := fun w' => w.grownBy w' row) _ _ _ _ ?_))
  have inv : HeadInv .any l.toArray n (Array.replicate l.toArray.size false) := ⟨by simp, fun j oj _ hl => (by rw [getD_replicate_false] at hl; cases hl), fun t ht ht' => by simp at ht'; simp [ht']⟩
  have := wpAnyG_of_ord (P := P) (Q := NoPanic Q) (S := fun w' => w.grownBy w' row) h1 (fun _ _ _ _ _ h => h) h3 h4 h5 pi _ a _ inv h2 (grown_drew w row) (h (grown_drew w row))
  rw [h6] at this
  exact this
/-- The last operation. -/
theorem ord_tail {l : List Oper} {S : World → Prop} {n : Nat} {o : Oper} {a : Act} {w : World} (ho : l[n]? = some o)
    (h : ∀ K : Act → World → Prop, Shut (∀ a' w', Q .normal a' w' → K a' w') → wpList P l.toArray (Exit.then K (NoPanic Q)) [o] a w) : wpOrd P l.toArray (TailQ P l.toArray n (NoPanic Q)) S [] a w := by
  have h0 := h (fun a' w' => Q .normal a' w') (fun _ _ h => h)
  show wpOp P l.toArray (NoPanic Q) n _ a w
  unfold wpOp
  have ho' : l.toArray[n]? = some o := by simpa using ho
  simp only [ho', wpList] at h0 ⊢
  split
  · rename_i hw
    simp only [hw, if_true] at h0
    exact h0.imp (fun h => wp_then h) id
  · rename_i hw
    simp only [hw] at h0
    exact h0
end
end Go.Proofs.YtgeiegjpnnbloaaDoor

namespace Go.Proofs.YtgeiegjpnnbloaaDoor
open Go.RowKit

inductive OT where
  | done
  | q (i : Nat) (r : OT)
  | e1 (i : Nat) (r : OT)
  | e2 (i j : Nat) (ri rj : OT)
  | e3 (i j k : Nat) (ri rj rk : OT)
def OT.high : OT → Nat
  | .done => 0
  | .q _ r => r.high + 1
  | .e1 _ r => r.high + 1
  | .e2 _ _ a b => max a.high b.high + 1
  | .e3 _ _ _ a b c => max a.high (max b.high c.high) + 1

section
variable {P : Program} {ops : Array Oper} {Q : Exit → Act → World → Prop} {S : World → Prop}
def stepE (P : Program) (ops : Array Oper) (Q : Exit → Act → World → Prop) (S : World → Prop) (i : Nat) (K : Act → World → Prop) (a : Act) (w : World) : Prop :=
  match ops[i]? with
  | none => False
  | some o => wpList P ops (Exit.then (fun a' w' => S w' ∧ K a' w') Q) [o] a w
def wpT (P : Program) (ops : Array Oper) (Q : Exit → Act → World → Prop) (S : World → Prop) : OT → Act → World → Prop
  | .done, a, w => Q .normal a w
  | .q i r, a, w => ∃ o v, ops[i]? = some o ∧ YieldsIf P ops S o v a ∧ wpT P ops Q S r (a.put o.dst v) w
  | .e1 i r, a, w => stepE P ops Q S i (wpT P ops Q S r) a w
  | .e2 i j ri rj, a, w => stepE P ops Q S i (wpT P ops Q S ri) a w ∧ stepE P ops Q S j (wpT P ops Q S rj) a w
  | .e3 i j k ri rj rk, a, w => stepE P ops Q S i (wpT P ops Q S ri) a w ∧ stepE P ops Q S j (wpT P ops Q S rj) a w ∧ stepE P ops Q S k (wpT P ops Q S rk) a w
def ordT (ops : Array Oper) : OT → Array Bool → Bool
  | .done, listed => (Region.ready .any ops listed).isEmpty
  | .q i r, listed => (Region.ready .any ops listed).contains i && Region.free .any ops listed i && ordT ops r (listed.setIfInBounds i true)
  | .e1 i r, listed => decide (Region.ready .any ops listed = [i]) && ordT ops r (listed.setIfInBounds i true)
  | .e2 i j ri rj, listed => decide (Region.ready .any ops listed = [i, j]) && ordT ops ri (listed.setIfInBounds i true) && ordT ops rj (listed.setIfInBounds j true)
  | .e3 i j k ri rj rk, listed => decide (Region.ready .any ops listed = [i, j, k]) && ordT ops ri (listed.setIfInBounds i true) && ordT ops rj (listed.setIfInBounds j true) && ordT ops rk (listed.setIfInBounds k true)
theorem stepE_op {i : Nat} {K K' : Act → World → Prop} {a : Act} {w : World} (h : stepE P ops Q S i K a w) (hK : ∀ a' w', S w' → K a' w' → K' a' w') : wpOp P ops Q i (fun a' w' => S w' ∧ K' a' w') a w := by
  unfold stepE at h
  unfold wpOp
  cases ho : ops[i]? with
  | none => simp [ho] at h
  | some o =>
    simp only [ho, wpList] at h ⊢
    split
    · rename_i hw
      simp only [hw, if_true] at h
      exact h.imp (fun h => Oper.wp_mono (fun a' w' h' => ⟨h'.1, hK _ _ h'.1 h'.2⟩) (wp_then h)) id
    · rename_i hw
      simp only [hw] at h
      exact ⟨h.1, hK _ _ h.1 h.2⟩
theorem wpAnyH_of_T (hsel : Region.noSelect ops = true) (hQ : ∀ c a d v w, Q (.panic c) (a.put d v) w → Q (.panic c) a w) :
    ∀ (T : OT) (fuel : Nat) (listed : Array Bool) (a : Act) (w : World), T.high ≤ fuel → ordT ops T listed = true → S w → wpT P ops Q S T a w → wpAnyH P .any ops Q S fuel listed a w
  | .done, fuel, listed, a, w, _, hB, _, h => wpAnyH_done (by simpa [ordT] using hB) h fuel
  | .q i r, 0, _, _, _, hf, _, _, _ => absurd hf (by simp [OT.high])
  | .e1 i r, 0, _, _, _, hf, _, _, _ => absurd hf (by simp [OT.high])
  | .e2 i j ri rj, 0, _, _, _, hf, _, _, _ => absurd hf (by simp [OT.high])
  | .e3 i j k ri rj rk, 0, _, _, _, hf, _, _, _ => absurd hf (by simp [OT.high])
  | .q i r, fuel + 1, listed, a, w, hf, hB, hS, h => by
    simp only [ordT, Bool.and_eq_true] at hB
    obtain ⟨⟨hr, hfr⟩, hB'⟩ := hB
    obtain ⟨o, v, ho, hy, hn⟩ := h
    exact wpAnyH_take ho hsel hfr hr (fun c a w => hQ c a _ _ w) hy hS (wpAnyH_of_T hsel hQ r fuel _ _ w (by simp [OT.high] at hf; omega) hB' hS hn)
  | .e1 i r, fuel + 1, listed, a, w, hf, hB, hS, h => by
    simp only [ordT, Bool.and_eq_true, decide_eq_true_eq] at hB
    refine wpAnyH_all hB.1 (by simp) fun x hx => ?_
    have hx1 : x = i := by simpa using hx
    subst hx1
    exact stepE_op h fun a' w' hS' h' => wpAnyH_of_T hsel hQ r fuel _ a' w' (by simp [OT.high] at hf; omega) hB.2 hS' h'
  | .e2 i j ri rj, fuel + 1, listed, a, w, hf, hB, hS, h => by
    simp only [ordT, Bool.and_eq_true, decide_eq_true_eq] at hB
    simp only [OT.high] at hf
    refine wpAnyH_all hB.1.1 (by simp) fun x hx => ?_
    simp only [List.mem_cons, List.not_mem_nil, or_false] at hx
    rcases hx with rfl | rfl
    · exact stepE_op h.1 fun a' w' hS' h' => wpAnyH_of_T hsel hQ ri fuel _ a' w' (by omega) hB.1.2 hS' h'
    · exact stepE_op h.2 fun a' w' hS' h' => wpAnyH_of_T hsel hQ rj fuel _ a' w' (by omega) hB.2 hS' h'
  | .e3 i j k ri rj rk, fuel + 1, listed, a, w, hf, hB, hS, h => by
    simp only [ordT, Bool.and_eq_true, decide_eq_true_eq] at hB
    simp only [OT.high] at hf
    refine wpAnyH_all hB.1.1.1 (by simp) fun x hx => ?_
    simp only [List.mem_cons, List.not_mem_nil, or_false] at hx
    rcases hx with rfl | rfl | rfl
    · exact stepE_op h.1 fun a' w' hS' h' => wpAnyH_of_T hsel hQ ri fuel _ a' w' (by omega) hB.1.1.2 hS' h'
    · exact stepE_op h.2.1 fun a' w' hS' h' => wpAnyH_of_T hsel hQ rj fuel _ a' w' (by omega) hB.1.2 hS' h'
    · exact stepE_op h.2.2 fun a' w' hS' h' => wpAnyH_of_T hsel hQ rk fuel _ a' w' (by omega) hB.2 hS' h'
theorem wp_region_T {id : Nat} {a : Act} {w : World} {l : List Oper} (row : Option Nat) (T : OT) (hm : P.follows .mixedOrders = true)
    (hB : (Region.noSelect l.toArray && ordT l.toArray T (Array.replicate l.toArray.size false) && decide (T.high ≤ l.toArray.size)) = true)
    (h : w.grownBy w.drew row → wpT P l.toArray (NoPanic Q) (fun w' => w.grownBy w' row) T a w.drew) : (Code.region id l.toArray true).wp P Q a w := by
  simp only [Bool.and_eq_true, decide_eq_true_eq] at hB
  obtain ⟨⟨h1, h2⟩, h3⟩ := hB
  refine wp_region_noPanic (wp_region_held (S := fun w' => w.grownBy w' row) hm ?_)
  exact wpAnyH_of_T h1 (fun _ _ _ _ _ h => h) T _ _ a _ h3 h2 (grown_drew w row) (h (grown_drew w row))
end
/-! The steps, at a region that is written out. -/
section
variable {P : Program} {Q : Exit → Act → World → Prop}
theorem tree_qE {l : List Oper} {i : Nat} {o : Oper} {r : OT} {a : Act} {w0 w : World} {row : Option Nat} (ho : l[i]? = some o) (hw : Region.wanted o (yielded l.toArray a.tmps) = true)
    (h : ∃ v, (∀ w', (∀ b off, b < w0.heap.size → some b ≠ row → w'.cell? ⟨b, off, none⟩ = w0.cell? ⟨b, off, none⟩) → (execOp a.eval o).run P w' = .ok (.value v) w') ∧ wpT P l.toArray Q (fun w' => w0.grownBy w' row) r (a.put o.dst v) w) :
    wpT P l.toArray Q (fun w' => w0.grownBy w' row) (.q i r) a w :=
  let ⟨v, hy, hn⟩ := h
  ⟨o, v, by simpa using ho, .inl ⟨hw, fun w' hS => hy w' fun b off hb hr => World.cell?_of_block (w := w0) (a := ⟨b, off, none⟩) (hS.block b hb hr)⟩, hn⟩
theorem tree_skip {l : List Oper} {S : World → Prop} {i : Nat} {o : Oper} {r : OT} {a : Act} {w : World} (ho : l[i]? = some o) (hw : Region.wanted o (yielded l.toArray a.tmps) = false)
    (h : wpT P l.toArray Q S r (a.put o.dst undef) w) : wpT P l.toArray Q S (.q i r) a w :=
  ⟨o, undef, by simpa using ho, .inr ⟨hw, rfl⟩, h⟩
theorem tree_step {l : List Oper} {S : World → Prop} {i : Nat} {o : Oper} {r : OT} {a : Act} {w : World} (ho : l[i]? = some o)
    (h : ∀ K : Act → World → Prop, Shut (∀ a' w', S w' → wpT P l.toArray Q S r a' w' → K a' w') → wpList P l.toArray (Exit.then K Q) [o] a w) : stepE P l.toArray Q S i (wpT P l.toArray Q S r) a w := by
  have ho' : l.toArray[i]? = some o := by simpa using ho
  simp only [stepE, ho']
  exact h _ (fun a' w' h1 h2 => ⟨h1, h2⟩)
theorem tree_e1 {ops : Array Oper} {S : World → Prop} {i : Nat} {r : OT} {a : Act} {w : World} (h : stepE P ops Q S i (wpT P ops Q S r) a w) : wpT P ops Q S (.e1 i r) a w := h
theorem tree_e2 {ops : Array Oper} {S : World → Prop} {i j : Nat} {r s : OT} {a : Act} {w : World} (h : stepE P ops Q S i (wpT P ops Q S r) a w) (h' : stepE P ops Q S j (wpT P ops Q S s) a w) : wpT P ops Q S (.e2 i j r s) a w := ⟨h, h'⟩
theorem tree_e3 {ops : Array Oper} {S : World → Prop} {i j k : Nat} {r s t : OT} {a : Act} {w : World} (h : stepE P ops Q S i (wpT P ops Q S r) a w) (h' : stepE P ops Q S j (wpT P ops Q S s) a w) (h'' : stepE P ops Q S k (wpT P ops Q S t) a w) : wpT P ops Q S (.e3 i j k r s t) a w := ⟨h, h', h''⟩
theorem tree_end {ops : Array Oper} {S : World → Prop} {a : Act} {w : World} (h : Q .normal a w) : wpT P ops (NoPanic Q) S .done a w := h
end
end Go.Proofs.YtgeiegjpnnbloaaDoor

namespace Go.Proofs.YtgeiegjpnnbloaaDoor
open Go.RowKit

section
variable {P : Program} {ops : Array Oper} {rest : List Oper} {o : Oper} {a : Act} {Q : Exit → Act → World → Prop} {w : World}

/-- 's[k] = x', x a struct, into a row of the call's own. -/
theorem run_store_own {ty e base g n c k : Nat} {sz : Nat} {L : List Value} (hown : w.ownsRow base e sz (.slice (some ⟨g, 0, none⟩) n c) n L) (hk : k < n)
    (cs : Array Value) (hl : cs.size = sz) (hi : (P.info? ty).map (·.size) = some sz) (h1 : ∀ u ∈ cs.toList, u.oneCell' = true) :
    ∃ w', (storeVar ty ⟨g, k * sz, none⟩ (.agg cs)).run P w = .ok () w' ∧
      w'.ownsRow base e sz (.slice (some ⟨g, 0, none⟩) n c) n (L.take (k * sz) ++ cs.toList ++ L.drop ((k + 1) * sz)) ∧ w.grownBy w' (some g) := by
  subst hl
  have hL := hown.1
  rcases hown.2 with ⟨h', _⟩ | ⟨g', cap, cur, hv, hg, hh, hnc, hcm, hcs, ht⟩
  · cases h'
  · injection hv with hA _ hC
    injection hA with hA
    injection hA with hA
    subst hA hC
    have hk1 : (k + 1) * cs.size ≤ n * cs.size := Nat.mul_le_mul_right _ hk
    have hk2 : n * cs.size ≤ c * cs.size := Nat.mul_le_mul_right _ hnc
    have hk3 : (k + 1) * cs.size = k * cs.size + cs.size := Nat.succ_mul _ _
    have hst := run_storeCells_at P g (k * cs.size) e cs.toList 0 cur w hh (by simp; omega) h1
    simp only [Nat.add_zero] at hst
    refine ⟨w.setRow g (cur.toList.take (k * cs.size) ++ cs.toList ++ cur.toList.drop (k * cs.size + cs.toList.length)).toArray, ?_, ⟨?_, .inr ⟨g, c, _, rfl, hg, setRow_heap w g cur _ e _ hh, hnc, hcm, ?_, ?_⟩⟩, ⟨rfl, rfl, rfl, by simp, fun q _ hq => setRow_other w g q _ (fun e => hq (by simp [e]))⟩⟩
    · cases hq : P.info? ty with
      | none => simp [hq] at hi
      | some i =>
        have hs : cs.size = i.size := by simp [hq] at hi; omega
        simp [storeVar, sizeOf, typeInfo, hq, Value.cells, hs]
        rw [← hs]
        simpa using hst
    · simp only [List.length_append, List.length_take, List.length_drop, hL, Array.length_toList]
      omega
    · simp only [List.size_toArray, List.length_append, List.length_take, List.length_drop, Array.length_toList]
      omega
    · have hlen : (cur.toList.take (k * cs.size) ++ cs.toList).length = (k + 1) * cs.size := by
        rw [List.length_append, List.length_take, Array.length_toList, Array.length_toList]; omega
      have e1 : n * cs.size = (k + 1) * cs.size + (n * cs.size - (k + 1) * cs.size) := by omega
      rw [e1, ← hlen, List.take_length_add_append, ← ht, List.take_take, Nat.min_eq_left (by omega), List.drop_take, hlen]
      congr 3
      rw [Array.length_toList, hk3]
theorem wpList_store_own (hgd : o.guard = none) (ty : TypeId) (x y : Operand) (ho : o.op = .store ty x y) {e base g n c k : Nat} {sz : Nat} {L : List Value}
    (hown : w.ownsRow base e sz (.slice (some ⟨g, 0, none⟩) n c) n L) (hk : k < n) {off : Nat} (hx : a.eval x = .pointer (some ⟨g, off, none⟩)) (hoff : off = k * sz) (cs : Array Value) (hy : a.eval y = .agg cs) (hl : cs.size = sz)
    (hi : (P.info? ty).map (·.size) = some sz) (h1 : ∀ u ∈ cs.toList, u.oneCell' = true)
    (h : ∀ w', w'.ownsRow base e sz (.slice (some ⟨g, 0, none⟩) n c) n (L.take (k * sz) ++ cs.toList ++ L.drop ((k + 1) * sz)) → w.grownBy w' (some g) → wpList P ops Q rest (a.put o.dst undef) w') :
    wpList P ops Q (o :: rest) a w := by
  subst hoff
  refine wpList_plain hgd fun K hK => ?_
  obtain ⟨w', hrun, h2, h3⟩ := run_store_own (P := P) (w := w) (ty := ty) hown hk cs hl hi h1
  unfold Oper.wp execOp
  simp only [ho, hx, hy, Instr.storeAt, Instr.sureAddr, Sem.run_bind, Sem.run_pure, Result.andThen_ok, hrun]
  exact hK _ _ (h w' h2 h3)
/-- 'make([]T, n)'. -/
theorem wpList_make_own (hgd : o.guard = none) {t e sz by_ : Nat} (x y : Operand) (ho : o.op = .makeSlice t x y) (T : ElemT P t e sz by_) {base n : Nat} (hx : a.eval x = .int .i64 n) (hy : a.eval y = .int .i64 n)
    (hb : by_ * n ≤ 281474976710656) (h63 : n ≤ maxLen) (hbase : base ≤ w.heap.size)
    (h : ∀ g w' L, w'.ownsRow base e sz (.slice (some ⟨g, 0, none⟩) n n) n L → w.grownBy w' none → wpList P ops Q rest (a.put o.dst (.slice (some ⟨g, 0, none⟩) n n)) w') : wpList P ops Q (o :: rest) a w := by
  obtain ⟨i, z, h2, h3, h4, h5, h6⟩ := T.hi
  subst h5
  obtain ⟨w', hrun, h7, h8⟩ := run_make_full (P := P) w base t e i z sz T.ht h2 h3 h4 .i64 .i64 n hb h63 hbase
  refine wpList_plain hgd fun K hK => ?_
  unfold Oper.wp execOp
  simp only [ho, hx, hy, Sem.run_bind, Sem.run_pure, Result.andThen_ok, hrun]
  exact hK _ _ (h _ w' _ h7 h8)
end
theorem take_set {L news : List Value} {k sz : Nat} (hn : news.length = sz) (hL : k * sz ≤ L.length) : (L.take (k * sz) ++ news ++ L.drop ((k + 1) * sz)).take ((k + 1) * sz) = L.take (k * sz) ++ news := by
  have h1 : (L.take (k * sz) ++ news).length = (k + 1) * sz := by simp [hn, Nat.succ_mul]; omega
  rw [← h1, List.take_left]
end Go.Proofs.YtgeiegjpnnbloaaDoor

namespace Go.Proofs.YtgeiegjpnnbloaaDoor
open Go.RowKit

theorem own_prefix {w : World} {base e sz g n c i : Nat} {L : List Value} (hown : w.ownsRow base e sz (.slice (some ⟨g, 0, none⟩) n c) n L) (hi : i ≤ n) : w.ownsRow base e sz (.slice (some ⟨g, 0, none⟩) i c) i (L.take (i * sz)) := by
  have hL := hown.1
  have hi' : i * sz ≤ n * sz := Nat.mul_le_mul_right _ hi
  refine ⟨by rw [List.length_take, hL]; exact Nat.min_eq_left hi', ?_⟩
  rcases hown.2 with ⟨h', _⟩ | ⟨g', cap, cur, hv, hg, hh, hnc', hcm', hcs, ht⟩
  · cases h'
  · injection hv with hA _ hC
    injection hA with hA
    injection hA with hA
    subst hA hC
    exact .inr ⟨g, c, cur, rfl, hg, hh, by omega, hcm', hcs, by rw [← ht, List.take_take, Nat.min_eq_left hi']⟩

section
variable {P : Program} {ops : Array Oper} {rest : List Oper} {o : Oper} {a : Act} {Q : Exit → Act → World → Prop} {w : World}

theorem run_append_sl {t ty e sz by_ : Nat} (T : ElemT P t e sz by_) {base n c m c2 B : Nat} {A A2 : Option Addr} {L L2 : List Value} (hown : w.ownsRow base e sz (.slice A n c) n L)
    (hs : Sl w B sz A2 m L2) (h1 : ∀ u ∈ L2, u.oneCell' = true) (h63 : n + m ≤ maxLen) (hb : (n + m) * by_ ≤ 140737488355328) (hbase : base ≤ w.heap.size) :
    ∃ A3 c3 w', (Builtin.append_ #[t, t] ty #[.slice A n c, .slice A2 m c2]).run P w = .ok (.slice A3 (n + m) c3) w' ∧
      w'.ownsRow base e sz (.slice A3 (n + m) c3) (n + m) (L ++ L2) ∧ w.grownBy w' (blkOf A) ∧ (∀ g, blkOf A3 = some g → blkOf A = some g ∨ w.heap.size ≤ g) := by
  obtain ⟨i, z, h2, h3, h4, h5, h6⟩ := T.hi
  have fin : ∀ ad : Addr, (∀ j u, L2[j]? = some u → w.cell? (ad.add j) = some u) → A2 = some ad → ∃ A3 c3 w', (Builtin.append_ #[t, t] ty #[.slice A n c, .slice A2 m c2]).run P w = .ok (.slice A3 (n + m) c3) w' ∧
      w'.ownsRow base e sz (.slice A3 (n + m) c3) (n + m) (L ++ L2) ∧ w.grownBy w' (blkOf A) ∧ (∀ g, blkOf A3 = some g → blkOf A = some g ∨ w.heap.size ≤ g) := by
    intro ad hc hA
    subst hA
    obtain ⟨v', w', hrun, ho, hg, hnil, hat⟩ := run_append_own_at (P := P) w base t ty e i z sz by_ T.ht h2 h3 h4 h5 h6 T.pos (.slice A n c) n L hown ad m c2 L2 hs.1 hc h1 h63 hb hbase
    have hbk : (Value.slice A n c).ownBlock = blkOf A := by cases A <;> rfl
    rw [hbk] at hg hat
    rcases ho.2 with ⟨hv, h0⟩ | ⟨g, cap, cur, hv, _⟩
    · subst hv
      obtain ⟨rfl, rfl⟩ : n = 0 ∧ m = 0 := by omega
      exact ⟨none, 0, w', hrun, ho, hg, fun g e => by cases e⟩
    · subst hv
      refine ⟨_, cap, w', hrun, ho, hg, fun g' e => ?_⟩
      have hg' : g = g' := by simpa [blkOf] using e
      subst hg'
      rcases hat with h | h
      · left; rw [← h]; rfl
      · right; simp [Value.ownBlock] at h; omega
  rcases A2 with _ | ad
  · have hm : m = 0 := by
      rcases Nat.eq_zero_or_pos m with h | h
      · exact h
      · obtain ⟨_, _, e, _⟩ := hs.2 h; cases e
    subst hm
    have hl : L2 = [] := List.eq_nil_of_length_eq_zero (by rw [hs.1]; simp)
    subst hl
    refine ⟨A, c, w, ?_, by simpa using hown, ⟨rfl, rfl, rfl, Nat.le_refl _, fun _ _ _ => rfl⟩, fun g h => .inl h⟩
    rcases hown.2 with ⟨hv, h0⟩ | ⟨g, cap, cur, hv, _, _, hnc, _⟩
    · injection hv with hA hn hc
      subst hA hn hc
      simp [Builtin.append_, run_underlying T.ht, sizeOf, typeInfo, h2, Builtin.lenOf, Builtin.firstCells]
    · injection hv with hA hn hc
      subst hA hc
      simp [Builtin.append_, run_underlying T.ht, sizeOf, typeInfo, h2, Builtin.lenOf, Builtin.firstCells, hnc, storeCells]
  · rcases Nat.eq_zero_or_pos m with h | h
    · have hl : L2 = [] := List.eq_nil_of_length_eq_zero (by rw [hs.1, h]; simp)
      exact fin ad (fun j u hj => by rw [hl] at hj; cases hj) rfl
    · obtain ⟨b, o, e, hbB, hr⟩ := hs.2 h
      refine fin ad (fun j u hj => ?_) rfl
      injection e with e
      rw [e, add_at]
      exact hr j u hj
theorem wpList_append_sl (hgd : o.guard = none) (s x : Operand) (t : TypeId) (ho : o.op = .call { callee := .builtin .append, args := #[s, x], argTypes := #[t, t] })
    {e sz by_ : Nat} (T : ElemT P t e sz by_) {base n c m c2 B : Nat} {A A2 : Option Addr} {L L2 : List Value} (hs : a.eval s = .slice A n c) (hown : w.ownsRow base e sz (.slice A n c) n L) (hx : a.eval x = .slice A2 m c2)
    (hsl : Sl w B sz A2 m L2) (h1 : ∀ u ∈ L2, u.oneCell' = true) (h63 : n + m ≤ maxLen) (hb : (n + m) * by_ ≤ 140737488355328) (hbase : base ≤ w.heap.size)
    (h : ∀ A3 c3 w', w'.ownsRow base e sz (.slice A3 (n + m) c3) (n + m) (L ++ L2) → w.grownBy w' (blkOf A) → (∀ g, blkOf A3 = some g → blkOf A = some g ∨ w.heap.size ≤ g) → wpList P ops Q rest (a.put o.dst (.slice A3 (n + m) c3)) w') :
    wpList P ops Q (o :: rest) a w := by
  refine wpList_plain hgd fun K hK => ?_
  obtain ⟨A3, c3, w', hrun, h2, h3, h4⟩ := run_append_sl (P := P) (w := w) (ty := o.type) (c2 := c2) T hown hsl h1 h63 hb hbase
  unfold Oper.wp execOp
  simp only [ho, resolve, invoke, builtin, Sem.run_bind, Sem.run_pure, Result.andThen_ok, List.map_toArray, List.map_cons, List.map_nil, hs, hx, hrun]
  exact hK _ _ (h A3 c3 w' h2 h3 h4)
end
end Go.Proofs.YtgeiegjpnnbloaaDoor

namespace Go.Proofs.YtgeiegjpnnbloaaDoor
open Go.RowKit

section
variable {P : Program} {fn : Func} {p u v : Tmp} {ty : TypeId}
theorem results_cell_tt (h : fn.results = #[.cell p ty, .tmp u, .tmp v]) (tmps : Array Value) (P : Program) (w : World) :
    (results fn tmps).run P w = ((asAddr (tmps.getD p undef)).run P w).andThen fun a w₁ => ((loadVar ty a).run P w₁).andThen fun x w₂ => .ok (.tuple #[x, tmps.getD u undef, tmps.getD v undef]) w₂ := by
  simp only [results, h]
  simp [Sem.run_bind, Result.andThen]
theorem ret_cell_tt {R : Ending → World → Prop} {a : Act} {w : World} {ad : Addr} {x : Value} (h : fn.results = #[.cell p ty, .tmp u, .tmp v]) (hp : a.tmps.getD p undef = .pointer (some ad))
    (hl : (loadVar ty ad).run P w = .ok x w) (hd : a.defers = []) (hR : R (.returned (.tuple #[x, a.tmps.getD u undef, a.tmps.getD v undef])) w) : bodyPost P fn R .ret a w :=
  bodyPost_ret (by rw [results_cell_tt h, hp]; simp [asAddr, hl]) hd hR
theorem ret_cell_t {R : Ending → World → Prop} {a : Act} {w : World} {ad : Addr} {x : Value} (h : fn.results = #[.cell p ty, .tmp u]) (hp : a.tmps.getD p undef = .pointer (some ad))
    (hl : (loadVar ty ad).run P w = .ok x w) (hd : a.defers = []) (hR : R (.returned (.tuple #[x, a.tmps.getD u undef])) w) : bodyPost P fn R .ret a w :=
  bodyPost_ret (by rw [results_cell_tmp h, hp]; simp [asAddr, hl, Result.andThen]) hd hR
theorem load_blk {w : World} {g : Nat} {t : TypeId} {cs : Array Value} (hb : Blk w g t cs) {d : TypeDesc} (hu : P.underlying ty = some d) (hd : (match d with | .struct _ | .array _ _ => true | _ => false) = true) (hi : (P.info? ty).map (·.size) = some cs.size) :
    (loadVar ty ⟨g, 0, none⟩).run P w = .ok (.agg cs) w := run_loadVar_row w g t ty cs (0, 0) d hb hu hd hi
end
section
variable {P : Program} {ops : Array Oper} {rest : List Oper} {o : Oper} {a : Act} {Q : Exit → Act → World → Prop} {w : World}
theorem wpList_store_blk (hgd : o.guard = none) (ty : TypeId) (x y : Operand) (ho : o.op = .store ty x y) {g : Nat} {t : TypeId} {old : Array Value} (hb : Blk w g t old) (cells : Array Value)
    (hx : a.eval x = .pointer (some ⟨g, 0, none⟩)) (hy : a.eval y = .agg cells) (hi : (P.info? ty).map (·.size) = some cells.size) (hold : old.size = cells.size) (h1 : cells.all (·.oneCell') = true)
    (h : ∀ w', Blk w' g t cells → w.grownBy w' (some g) → w'.heap.size = w.heap.size → wpList P ops Q rest (a.put o.dst undef) w') : wpList P ops Q (o :: rest) a w :=
  wpList_store_row hgd ty x y ho g cells hx hy t old hb hi hold h1
    (h _ (setRow_heap w g old cells t _ hb) ⟨rfl, rfl, rfl, by simp, fun q _ hq => setRow_other w g q _ (fun e => hq (by simp [e]))⟩ (by simp))
end
end Go.Proofs.YtgeiegjpnnbloaaDoor

namespace Go.Proofs.YtgeiegjpnnbloaaDoor
open Go.RowKit

theorem conv_new (xs : List Int) (w : World) {n : Nat} (hn : xs.length = n) : (convert 22 9 (.slice (some ⟨w.heap.size, 0, none⟩) n n)).run Tryd.prog (w.alloc (.cells (xs.map (Value.int .u8)).toArray 5)) = .ok (.string (strOfNums xs)) (w.alloc (.cells (xs.map (Value.int .u8)).toArray 5)) :=
  run_convert_bytes_arg _ 22 5 Tryd.underlying22 Tryd.underlying5 w.heap.size 0 n n xs hn (fun i hi => by
    rw [Nat.zero_add, (Blk.new w 5 _).cell i]
    simp [List.getD, List.getElem?_eq_getElem (show i < xs.length by omega)]) 9 Tryd.underlying9
theorem Blk.set {w : World} {g : Nat} {t : TypeId} {cs : Array Value} (h : Blk w g t cs) (i : Nat) (v : Value) : Blk (w.setCell ⟨g, i, none⟩ v) g t (cs.setIfInBounds i v) := heap_setCell_same w g i cs t v h
theorem Blk.set_ne {w : World} {g : Nat} {t : TypeId} {cs : Array Value} (h : Blk w g t cs) (a : Addr) (v : Value) (hne : g ≠ a.block) : Blk (w.setCell a v) g t cs := h.keep (heap_setCell_other w a g v hne)
theorem own_set {w : World} {base e sz n c : Nat} {A : Option Addr} {L : List Value} (h : w.ownsRow base e sz (.slice A n c) n L) (a : Addr) (v : Value) (hb : a.block < base) : (w.setCell a v).ownsRow base e sz (.slice A n c) n L := by
  refine own_keep h fun g o e => heap_setCell_other w a g v fun hg => ?_
  subst e
  rcases h.2 with ⟨h', _⟩ | ⟨g', cap, cur, hv, hg', hh, hnc, hcm, hcs, ht⟩
  · cases h'
  · injection hv with hA _ hC
    injection hA with hA
    injection hA with hA _ _
    omega
theorem Sl.blk {w : World} {g B sz n : Nat} {t : TypeId} {cs : Array Value} {L : List Value} (h : Blk w g t cs) (hL : cs.toList = L) (hl : L.length = n * sz) (hg : g < B) : Sl w B sz (some ⟨g, 0, none⟩) n L :=
  ⟨hl, fun _ => ⟨g, 0, rfl, hg, fun i v hi => by rw [Nat.zero_add, h.cell i]; subst hL; simpa using hi⟩⟩
end Go.Proofs.YtgeiegjpnnbloaaDoor

namespace Go.Proofs.YtgeiegjpnnbloaaDoor
open Go.ChangeShapes Go.WideShapes Go.ChangeAt Go.RowKit Go.Deep

theorem own : ownKnob Tryd.prog.godebug = none := by kernel_rfl
theorem laidOut : laidOutB Tryd.prog = true := by kernel_rfl
end Go.Proofs.YtgeiegjpnnbloaaDoor

namespace Go.Proofs.YtgeiegjpnnbloaaDoor
open Go.RowKit Go.WideMaps Go.Maps

def KM (w : World) (b n : Nat) (f : List UInt8 → Int) : Prop :=
  ∃ D : DataW Unit, IsMap D ∧ w.ownsMap Tryd.prog 9 (plainElem Tryd.prog 3) b n D ∧ ∀ k : List UInt8, D.atKey (.string k) (.lit (.int .i64 0)) = .lit (.int .i64 (f k))
theorem Tryd.strKeyed : Keyed Tryd.prog 9 := string_keyed Tryd.underlying9
theorem Tryd.zeroInt (w : World) : (zeroValue 3).run Tryd.prog w = .ok (.int .i64 0) w := by kernel_rfl
theorem KM.new (w : World) : KM (w.alloc (.map #[] 0)) w.heap.size 0 (fun _ => 0) := ⟨.map [], ⟨_, rfl⟩, World.ownsMap_made _ _ _ _, fun _ => rfl⟩
theorem KM.kept {w w' : World} {b n : Nat} {f : List UInt8 → Int} {row : Option Nat} (h : KM w b n f) (hg : w.grownBy w' row) (hne : some b ≠ row) : KM w' b n f := by
  obtain ⟨D, h0, h1, h2⟩ := h
  exact ⟨D, h0, h1.kept hg hne, h2⟩
theorem KM.lt {w : World} {b n : Nat} {f : List UInt8 → Int} (h : KM w b n f) : b < w.heap.size := h.choose_spec.2.1.lt
section
variable {ops : Array Oper} {rest : List Oper} {o : Oper} {a : Act} {Q : Exit → Act → World → Prop} {w : World}
end
end Go.Proofs.YtgeiegjpnnbloaaDoor
