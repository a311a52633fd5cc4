/- The memory of match.Match: what its variables hold, and what a change leaves alone. -/
import Derived.Test.YtcnpncieibmngaaMatchC
import Derived.Test.YtcnpncieibmngaaMakeZ
import Derived.Test.YtcnpncieibmngaaCopy0
namespace Go.Proofs.Ytcnpncieibmngaa
open Go.RowKit

def isSI : Obj → Bool
  | .cells _ t _ => t == 35 || t == 3
  | _ => false
/-- What a change leaves alone: all below B, and all but cells of sources and of numbers, and the blocks xs. -/
structure FrM (B : Nat) (xs : List Nat) (W W' : World) : Prop where
  below : Below B W W'
  same : ∀ (g : Nat) (o : Obj), W.heap[g]? = some o → isSI o = false → g ∉ xs → W'.heap[g]? = some o
theorem own_some' {w : World} {base e sz n c : Nat} {A : Option Addr} {L : List Value} (h : w.ownsRow base e sz (.slice A n c) n L) (hn : 0 < n) : ∃ g, A = some ⟨g, 0, none⟩ := by
  rcases h.2 with ⟨h', _⟩ | ⟨g', cap, cur, hv, _⟩
  · injection h' with _ h2; omega
  · injection hv with hA; exact ⟨g', hA⟩
theorem FrM.refl (B : Nat) (xs : List Nat) (W : World) : FrM B xs W W := ⟨Below.refl _ _, fun _ _ h _ _ => h⟩
theorem FrM.trans {B : Nat} {xs : List Nat} {a b c : World} (h : FrM B xs a b) (k : FrM B xs b c) : FrM B xs a c := ⟨h.below.trans k.below, fun g o hg hs hx => k.same g o (h.same g o hg hs hx) hs hx⟩
theorem FrM.more {B : Nat} {xs ys : List Nat} {a b : World} (h : FrM B xs a b) (hs : ∀ x ∈ xs, x ∈ ys) : FrM B ys a b := ⟨h.below, fun g o hg h1 h2 => h.same g o hg h1 fun h => h2 (hs g h)⟩
theorem FrM.of_none {B : Nat} {W W' : World} (h : W.grownBy W' none) (hB : B ≤ W.heap.size) (xs : List Nat) : FrM B xs W W' :=
  ⟨below_grown h hB (fun g e => by cases e), fun g o hg _ _ => (h.block g (Array.getElem?_eq_some_iff.1 hg).1 (by simp)).trans hg⟩
theorem FrM.of_in {B b : Nat} {W W' : World} {xs : List Nat} (h : W.grownBy W' (some b)) (hB : B ≤ W.heap.size) (hb : B ≤ b) (hx : b ∈ xs) : FrM B xs W W' :=
  ⟨below_grown h hB (fun g e => by injection e with e; omega), fun g o hg _ h2 => (h.block g (Array.getElem?_eq_some_iff.1 hg).1 (fun e => h2 (by injection e with e; rw [e]; exact hx))).trans hg⟩
theorem FrM.of_row {B base e sz n c : Nat} {A : Option Addr} {L : List Value} {W W' : World} {xs : List Nat} (h : W.grownBy W' (blkOf A)) (ho : W.ownsRow base e sz (.slice A n c) n L) (he : e = 35 ∨ e = 3) (hB : B ≤ base) (hs : B ≤ W.heap.size) : FrM B xs W W' := by
  refine ⟨below_grown h hs (fun g e => Nat.le_trans hB (own_blk1 ho g e)), fun g o hg hsi _ => (h.block g (Array.getElem?_eq_some_iff.1 hg).1 fun e => ?_).trans hg⟩
  rcases ho.2 with ⟨h', _⟩ | ⟨g', cap, cur, hv, hg', hh, _⟩
  · injection h' with hA
    rw [hA] at e; cases e
  · injection hv with hA
    rw [hA] at e
    injection e with e
    subst e
    rw [hh] at hg
    injection hg with hg
    subst hg
    rcases he with rfl | rfl <;> simp [isSI] at hsi
theorem FrM.blk {B g : Nat} {xs : List Nat} {W W' : World} {t : TypeId} {cs : Array Value} (h : FrM B xs W W') (hb : Blk W g t cs) (h1 : (t == 35 || t == 3) = false) (hx : g ∉ xs) : Blk W' g t cs := h.same g _ hb h1 hx
theorem FrM.own {B base e sz n c : Nat} {A : Option Addr} {L : List Value} {W W' : World} {xs : List Nat} (h : FrM B xs W W') (ho : W.ownsRow base e sz (.slice A n c) n L) (h1 : (e == 35 || e == 3) = false) (hx : ∀ g, blkOf A = some g → g ∉ xs) : W'.ownsRow base e sz (.slice A n c) n L := by
  refine own_keep ho fun g o e2 => ?_
  rcases ho.2 with ⟨h', _⟩ | ⟨g', cap, cur, hv, hg', hh, _⟩
  · injection h' with hA
    rw [hA] at e2; cases e2
  · injection hv with hA
    rw [hA] at e2
    injection e2 with e2
    injection e2 with e2
    subst e2
    rw [hh]
    exact h.same g' _ hh h1 (hx g' (by rw [hA]; rfl))
theorem FrM.map {B b : Nat} {xs : List Nat} {W W' : World} {α : Type} [DecidableEq α] {k : TypeId} {T : KT α k} {es : List (α × Value)} (h : FrM B xs W W') (hm : MapV T W b es) (hx : b ∉ xs) : MapV T W' b es := by
  obtain ⟨ms, clock, hb⟩ := hm.isMap
  exact hm.keep ((h.same b _ hb rfl hx).trans hb.symm)
/-! Numbers in rows, in maps. -/
def numC (l : List Nat) : List Value := l.map fun (k : Nat) => Value.int .i64 (k : Int)
theorem numC_len (l : List Nat) : (numC l).length = l.length := by simp [numC]
theorem numC_one (l : List Nat) : ∀ u ∈ numC l, u.oneCell' = true := by
  intro u hu
  obtain ⟨k, _, rfl⟩ := List.mem_map.1 hu
  rfl
theorem Try.numT : ElemT Try.prog 71 3 1 8 := ElemT.mk' (z := .int .i64 0) Try.underlying71 (by kernel_rfl) rfl (by decide)
theorem Try.mtNums : MT 67 9 71 (.slice none 0 0) := ⟨Try.underlying67, fun w => by kernel_rfl⟩
theorem Try.mtNum : MT 74 9 3 (.int .i64 0) := ⟨Try.underlying74, fun w => by kernel_rfl⟩
/-- A map from contents to numbers. -/
def IdxAt (W : World) (b : Nat) (N : Nat) (G : ByteArray → Option Nat) : Prop :=
  ∃ es, MapV strK W b es ∧ es.length ≤ N ∧ ∀ p, getV es p = (G p).map fun (k : Nat) => Value.int .i64 k
theorem IdxAt.fr {B b N : Nat} {xs : List Nat} {W W' : World} {G : ByteArray → Option Nat} (h : IdxAt W b N G) (hf : FrM B xs W W') (hx : b ∉ xs) : IdxAt W' b N G := by
  obtain ⟨es, h1, h2⟩ := h
  exact ⟨es, hf.map h1 hx, h2⟩
theorem IdxAt.lt {b N : Nat} {W : World} {G : ByteArray → Option Nat} (h : IdxAt W b N G) : b < W.heap.size := by obtain ⟨es, h1, _⟩ := h; exact h1.lt
/-- A map from contents to lists of numbers, each in a row of its own. -/
structure FreeE (W : World) (base : Nat) (es : List (ByteArray × Value)) (F : ByteArray → List Nat) : Prop where
  no : ∀ b, F b = [] → getV es b = none
  yes : ∀ b, F b ≠ [] → ∃ (A : Option Addr) (c : Nat), getV es b = Option.some (.slice A (F b).length c) ∧ W.ownsRow base 3 1 (.slice A (F b).length c) (F b).length (numC (F b))
  apart : ∀ b b' A A' n n' c c' g, b ≠ b' → getV es b = Option.some (.slice A n c) → getV es b' = Option.some (.slice A' n' c') → blkOf A = Option.some g → blkOf A' ≠ Option.some g
def FreeAt (W : World) (base b N : Nat) (F : ByteArray → List Nat) : Prop := ∃ es, MapV strK W b es ∧ es.length ≤ N ∧ FreeE W base es F
theorem FreeE.look {W : World} {base : Nat} {es : List (ByteArray × Value)} {F : ByteArray → List Nat} (h : FreeE W base es F) (b : ByteArray) : ∃ (A : Option Addr) (c : Nat), (getV es b).getD (.slice .none 0 0) = .slice A (F b).length c ∧ W.ownsRow base 3 1 (.slice A (F b).length c) (F b).length (numC (F b)) := by
  by_cases e : F b = []
  · rw [h.no b e, e]
    exact ⟨.none, 0, rfl, World.ownsRow_nil _ _ _ _⟩
  · obtain ⟨A, c, h1, h2⟩ := h.yes b e
    exact ⟨A, c, by rw [h1]; rfl, h2⟩
theorem FreeE.keep {W W' : World} {base : Nat} {es : List (ByteArray × Value)} {F : ByteArray → List Nat} (h : FreeE W base es F) (hk : ∀ b A n c g, getV es b = Option.some (.slice A n c) → blkOf A = Option.some g → W'.heap[g]? = W.heap[g]?) : FreeE W' base es F :=
  ⟨h.no, fun b hb => by
    obtain ⟨A, c, h1, h2⟩ := h.yes b hb
    exact ⟨A, c, h1, own_keep h2 fun g o e => hk b A _ c g h1 (by rw [e]; rfl)⟩, h.apart⟩
theorem FreeE.row_lt {W : World} {base : Nat} {es : List (ByteArray × Value)} {F : ByteArray → List Nat} (h : FreeE W base es F) {b : ByteArray} {A : Option Addr} {n c g : Nat} (h1 : getV es b = Option.some (.slice A n c)) (hg : blkOf A = Option.some g) : g < W.heap.size ∧ ∃ cur, W.heap[g]? = Option.some (.cells cur 3 (0, 0)) := by
  by_cases e : F b = []
  · rw [h.no b e] at h1; cases h1
  · obtain ⟨A', c', h2, h3⟩ := h.yes b e
    rw [h1] at h2
    injection h2 with h2
    injection h2 with h2
    subst h2
    rcases h3.2 with ⟨h', _⟩ | ⟨g', cap, cur, hv, _, hh, _⟩
    · injection h' with hA; rw [hA] at hg; cases hg
    · injection hv with hA
      rw [hA] at hg
      injection hg with hg
      subst hg
      exact ⟨(Array.getElem?_eq_some_iff.1 hh).1, cur, hh⟩
theorem getV_len {es : List (ByteArray × Value)} (a : ByteArray) (v : Value) : (putV es a v).length ≤ es.length + 1 := by
  unfold putV
  split
  · rw [List.length_map]; omega
  · simp
theorem delV_len {es : List (ByteArray × Value)} (a : ByteArray) : (delV es a).length ≤ es.length := List.length_filter_le _ _
theorem putV_len_in {es : List (ByteArray × Value)} {a : ByteArray} {v u : Value} (h : getV es a = some u) : (putV es a v).length = es.length := by
  unfold putV
  rw [if_pos (key_mem (getV_some h)), List.length_map]

/-- The variables that the first round's walk has. -/
structure MC where
  base : Nat
  s : TV
  t : TV
  ds : List ByteArray
  es : List ByteArray
  sd : List ByteArray
  sx : Nat
  tx : Nat
  ox : Nat
  fx : Nat
  og : Nat
  fm : Nat
structure MM1 (C : MC) (W : World) (out : List Src) (F : ByteArray → List Nat) : Prop where
  size : C.base ≤ W.heap.size
  sB : Blk W C.sx 25 C.s.cells
  tB : Blk W C.tx 25 C.t.cells
  oB : Blk W C.ox 29 #[.slice (some ⟨C.og, 0, none⟩) C.es.length C.es.length]
  oR : W.ownsRow C.base 35 3 (.slice (some ⟨C.og, 0, none⟩) C.es.length C.es.length) C.es.length (out.flatMap Src.list)
  ol : out.length = C.es.length
  fB : Blk W C.fx 67 #[.map (some C.fm)]
  fM : FreeAt W C.base C.fm 300 F
  fb : C.base ≤ C.fm
theorem FreeAt.fr {W W' : World} {base b N B : Nat} {F : ByteArray → List Nat} {xs : List Nat} (h : FreeAt W base b N F) (hf : FrM B xs W W') (hb : b ∉ xs) (hrow : ∀ (g : Nat) (cur : Array Value), W.heap[g]? = some (.cells cur 3 (0, 0)) → W'.heap[g]? = W.heap[g]?) : FreeAt W' base b N F := by
  obtain ⟨es, h1, h2, h3⟩ := h
  refine ⟨es, hf.map h1 hb, h2, h3.keep fun b A n c g hg hA => ?_⟩
  obtain ⟨_, cur, hh⟩ := h3.row_lt hg hA
  exact hrow g cur hh
/-- A change that leaves sources and numbers alone too. -/
theorem MM1.still {C : MC} {W W' : World} {out : List Src} {F : ByteArray → List Nat} (h : MM1 C W out F) (hg : W.grownBy W' none) : MM1 C W' out F := by
  have hf := FrM.of_none hg h.size []
  exact ⟨Nat.le_trans h.size hg.size, hf.blk h.sB (by decide) (by simp), hf.blk h.tB (by decide) (by simp), hf.blk h.oB (by decide) (by simp), own_keep h.oR fun g o e => hg.block g (own_lt2 (by rw [← e]; exact h.oR)).2.1 (by simp), h.ol, hf.blk h.fB (by decide) (by simp),
    h.fM.fr hf (by simp) fun g cur hh => hg.block g (Array.getElem?_eq_some_iff.1 hh).1 (by simp), h.fb⟩
end Go.Proofs.Ytcnpncieibmngaa
