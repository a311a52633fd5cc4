/- A world of package model in memory: a tree in three maps. -/
import Derived.Test.YtanaccoelifcpaaMapV
import Derived.Test.YtanaccoelifcpaaUniq
import Derived.Test.YtanaccoelifcpaaKit
namespace Go.Proofs.Ytanaccoelifcpaa
open Go.RowKit

/-- A file of a world. -/
structure PF where
  id : Int
  mode : Int
  data : ByteArray
/-- A world as plain data. -/
structure PW where
  nodes : List Node
  files : List PF
  next : Int
/-- A file as it lies in memory. -/
structure MF where
  id : Int
  mode : Int
  cnt : Int
  data : ByteArray
  g : Nat
  A : Option Addr
  n : Nat
  c : Nat
def MF.pf (m : MF) : PF := ⟨m.id, m.mode, m.data⟩
def MF.ent (m : MF) : Int × Value := (m.id, .pointer (some ⟨m.g, 0, none⟩))
def MF.cells (m : MF) : Array Value := #[.int .i64 m.mode, .int .i64 m.cnt, .slice m.A m.n m.c]
def nodeV (f m : Int) : Value := .agg #[.int .i64 f, .int .i64 m]
def Node.ent (x : Node) : ByteArray × Value := (x.path, nodeV x.file x.mode)
def nodesE (l : List Node) : List (ByteArray × Value) := l.map Node.ent
theorem nodesE_keys (l : List Node) : keysV (nodesE l) = l.map (·.path) := by simp [keysV, nodesE, Function.comp_def, Node.ent]
theorem nodesE_get (l : List Node) (p : ByteArray) : getV (nodesE l) p = (nodeAt l p).map fun x => nodeV x.file x.mode := by
  unfold getV nodesE nodeAt
  rw [List.find?_map]
  simp [Function.comp_def, Node.ent]
  rfl
def msE (ms : List MF) : List (Int × Value) := ms.map MF.ent
theorem msE_keys (ms : List MF) : keysV (msE ms) = ms.map (·.id) := by simp [keysV, msE, Function.comp_def, MF.ent]
def mfAt (ms : List MF) (i : Int) : Option MF := ms.find? fun m => decide (m.id = i)
theorem msE_get (ms : List MF) (i : Int) : getV (msE ms) i = (mfAt ms i).map fun m => .pointer (some ⟨m.g, 0, none⟩) := by
  unfold getV msE mfAt
  rw [List.find?_map]
  simp [Function.comp_def, MF.ent]
  rfl
theorem mfAt_some {ms : List MF} {i : Int} {m : MF} (h : mfAt ms i = some m) : m ∈ ms ∧ m.id = i := ⟨List.mem_of_find?_eq_some h, by simpa using List.find?_some h⟩

theorem grown_setCell (w : World) (a : Addr) (v : Value) : w.grownBy (w.setCell a v) (some a.block) :=
  ⟨rfl, rfl, rfl, by simp [World.setCell], fun k _ hne => heap_setCell_other w a k v fun e => hne (by rw [e])⟩
/-- What a change to a world leaves alone: all that was there before B0, and all cells of other types. -/
structure Fr (B0 : Nat) (w w' : World) : Prop where
  below : Below B0 w w'
  loc : ∀ (k : Nat) (cs : Array Value) (t : TypeId), w.heap[k]? = some (.cells cs t (0, 0)) → t ≠ 71 → t ≠ 79 → w'.heap[k]? = w.heap[k]?
theorem Fr.refl (B0 : Nat) (w : World) : Fr B0 w w := ⟨Below.refl _ _, fun _ _ _ _ _ _ => rfl⟩
theorem Fr.trans {B0 : Nat} {a b c : World} (h : Fr B0 a b) (k : Fr B0 b c) : Fr B0 a c :=
  ⟨h.below.trans k.below, fun i cs t hi h1 h2 => by
    have e := h.loc i cs t hi h1 h2
    exact (k.loc i cs t (e.trans hi) h1 h2).trans e⟩
theorem Fr.blk {B0 g : Nat} {w w' : World} {t : TypeId} {cs : Array Value} (h : Fr B0 w w') (hb : Blk w g t cs) (h1 : t ≠ 71) (h2 : t ≠ 79) : Blk w' g t cs := hb.keep (h.loc g cs t hb h1 h2)
theorem Fr.of_none {B0 : Nat} {w w' : World} (h : w.grownBy w' none) (hB : B0 ≤ w.heap.size) : Fr B0 w w' :=
  ⟨below_grown h hB (fun g e => by cases e), fun k cs t hk _ _ => h.block k (Array.getElem?_eq_some_iff.1 hk).1 (by simp)⟩
theorem Fr.of_below {B0 : Nat} {w w' : World} (h : Below w.heap.size w w') (hB : B0 ≤ w.heap.size) : Fr B0 w w' := Fr.of_none (grown_below h (Nat.le_refl _)) hB
theorem Fr.alloc {B0 : Nat} {w : World} (o : Obj) (hB : B0 ≤ w.heap.size) : Fr B0 w (w.alloc o) := Fr.of_none (World.grownBy_alloc w o none) hB
theorem Fr.of_map {α : Type} [DecidableEq α] {k : TypeId} {T : KT α k} {B0 b : Nat} {w w' : World} {es : List (α × Value)} (h : w.grownBy w' (some b)) (hm : MapV T w b es) (hb : B0 ≤ b) (hB : B0 ≤ w.heap.size) : Fr B0 w w' :=
  ⟨below_grown h hB (fun g e => by injection e with e; omega), fun k cs t hk _ _ => h.block k (Array.getElem?_eq_some_iff.1 hk).1 (fun e => by
    injection e with e
    subst e
    exact Blk.ne_map (w := w) hk hm rfl)⟩
theorem Fr.setCell {B0 g i : Nat} {w : World} {t : TypeId} {cs : Array Value} (hb : Blk w g t cs) (ht : t = 71 ∨ t = 79) (hB : B0 ≤ g) (v : Value) : Fr B0 w (w.setCell ⟨g, i, none⟩ v) :=
  ⟨(Below.refl B0 w).setCell (p := ⟨g, i, none⟩) hB _, fun k cs' t' hk h1 h2 => heap_setCell_other w _ k v fun e => by
    simp only at e
    subst e
    unfold Blk at hb
    rw [hb] at hk
    injection hk with hk
    injection hk with _ hk
    rcases ht with ht | ht <;> simp_all⟩

/-- The memory of a world: the struct, three maps, the files' blocks. -/
structure WMem (B0 : Nat) (w : World) (wb nb fb kb : Nat) (ns : List (ByteArray × Value)) (ms : List MF) (kl : List (ByteArray × Value)) (next : Int) : Prop where
  blk : Blk w wb 71 #[.map (some nb), .map (some fb), .map (some kb), .int .i64 next]
  nodes : MapV strK w nb ns
  files : MapV intK w fb (msE ms)
  kids : MapV strK w kb kl
  gs : ms.Pairwise (fun x y => x.g ≠ y.g)
  fblk : ∀ m ∈ ms, Blk w m.g 79 m.cells
  fdat : ∀ m ∈ ms, m.data.size = m.n ∧ Sl w B0 1 m.A m.n (bytesC m.data)
  fnew : ∀ m ∈ ms, B0 ≤ m.g
  new : B0 ≤ wb ∧ B0 ≤ nb ∧ B0 ≤ fb ∧ B0 ≤ kb
  ne : nb ≠ fb ∧ nb ≠ kb ∧ fb ≠ kb
section
variable {B0 wb nb fb kb : Nat} {w w' : World} {ns kl : List (ByteArray × Value)} {ms : List MF} {next : Int}
theorem WMem.size (h : WMem B0 w wb nb fb kb ns ms kl next) : B0 ≤ w.heap.size := by have := h.blk.lt; have := h.new.1; omega
/-- Nothing that was there is turned. -/
theorem WMem.keep (h : WMem B0 w wb nb fb kb ns ms kl next) (hg : w.grownBy w' none) : WMem B0 w' wb nb fb kb ns ms kl next :=
  ⟨h.blk.grown hg (by simp), h.nodes.kept hg (by simp), h.files.kept hg (by simp), h.kids.kept hg (by simp), h.gs, fun m hm => (h.fblk m hm).grown hg (by simp),
    fun m hm => ⟨(h.fdat m hm).1, (h.fdat m hm).2.keep (Nat.le_refl _) fun k hk => hg.block k (Nat.lt_of_lt_of_le hk h.size) (by simp)⟩, h.fnew, h.new, h.ne⟩
theorem WMem.dat (h : WMem B0 w wb nb fb kb ns ms kl next) (hb : Below B0 w w') : ∀ m ∈ ms, m.data.size = m.n ∧ Sl w' B0 1 m.A m.n (bytesC m.data) :=
  fun m hm => ⟨(h.fdat m hm).1, (h.fdat m hm).2.keep (Nat.le_refl _) hb.block⟩
theorem WMem.set_nodes (h : WMem B0 w wb nb fb kb ns ms kl next) {ns' : List (ByteArray × Value)} (hg : w.grownBy w' (some nb)) (hm : MapV strK w' nb ns') : WMem B0 w' wb nb fb kb ns' ms kl next :=
  ⟨h.blk.grown hg (fun e => by injection e with e; exact h.blk.ne_map h.nodes e), hm, h.files.kept hg (fun e => by injection e with e; exact h.ne.1 e.symm), h.kids.kept hg (fun e => by injection e with e; exact h.ne.2.1 e.symm), h.gs,
    fun m hm => (h.fblk m hm).grown hg (fun e => by injection e with e; exact (h.fblk m hm).ne_map h.nodes e), h.dat (Fr.of_map hg h.nodes h.new.2.1 h.size).below, h.fnew, h.new, h.ne⟩
theorem WMem.set_kids (h : WMem B0 w wb nb fb kb ns ms kl next) {kl' : List (ByteArray × Value)} (hg : w.grownBy w' (some kb)) (hm : MapV strK w' kb kl') : WMem B0 w' wb nb fb kb ns ms kl' next :=
  ⟨h.blk.grown hg (fun e => by injection e with e; exact h.blk.ne_map h.kids e), h.nodes.kept hg (fun e => by injection e with e; exact h.ne.2.1 e), h.files.kept hg (fun e => by injection e with e; exact h.ne.2.2 e), hm, h.gs,
    fun m hm => (h.fblk m hm).grown hg (fun e => by injection e with e; exact (h.fblk m hm).ne_map h.kids e), h.dat (Fr.of_map hg h.kids h.new.2.2.2 h.size).below, h.fnew, h.new, h.ne⟩
/-- The files' map is turned; what it holds is known. -/
theorem WMem.set_files (h : WMem B0 w wb nb fb kb ns ms kl next) {ms' : List MF} (hg : w.grownBy w' (some fb)) (hm : MapV intK w' fb (msE ms')) (gs : ms'.Pairwise (fun x y => x.g ≠ y.g))
    (hs : ∀ m ∈ ms', (Blk w m.g 79 m.cells) ∧ (m.data.size = m.n ∧ Sl w B0 1 m.A m.n (bytesC m.data)) ∧ B0 ≤ m.g) : WMem B0 w' wb nb fb kb ns ms' kl next :=
  ⟨h.blk.grown hg (fun e => by injection e with e; exact h.blk.ne_map h.files e), h.nodes.kept hg (fun e => by injection e with e; exact h.ne.1 e), hm, h.kids.kept hg (fun e => by injection e with e; exact h.ne.2.2 e.symm), gs,
    fun m hm => (hs m hm).1.grown hg (fun e => by injection e with e; exact (hs m hm).1.ne_map h.files e), fun m hm => ⟨(hs m hm).2.1.1, (hs m hm).2.1.2.keep (Nat.le_refl _) (Fr.of_map hg h.files h.new.2.2.1 h.size).below.block⟩, fun m hm => (hs m hm).2.2, h.new, h.ne⟩
theorem WMem.set_next (h : WMem B0 w wb nb fb kb ns ms kl next) (n : Int) : WMem B0 (w.setCell ⟨wb, 3, none⟩ (.int .i64 n)) wb nb fb kb ns ms kl n := by
  have hg : w.grownBy (w.setCell ⟨wb, 3, none⟩ (.int .i64 n)) (some wb) := grown_setCell w ⟨wb, 3, none⟩ _
  have hx : ∀ m ∈ ms, wb ≠ m.g := fun m hm e => by
    have h1 := h.blk; have h2 := h.fblk m hm
    unfold Blk at h1 h2
    rw [← e, h1] at h2
    injection h2 with h2; injection h2 with _ h2; cases h2
  exact ⟨h.blk.set 3 _, h.nodes.kept hg (fun e => by injection e with e; exact h.blk.ne_map h.nodes e.symm), h.files.kept hg (fun e => by injection e with e; exact h.blk.ne_map h.files e.symm), h.kids.kept hg (fun e => by injection e with e; exact h.blk.ne_map h.kids e.symm), h.gs,
    fun m hm => (h.fblk m hm).set_ne _ _ (fun e => hx m hm e.symm), h.dat (Fr.setCell h.blk (.inl rfl) h.new.1 _).below, h.fnew, h.new, h.ne⟩
def setMF (ms : List MF) (g : Nat) (f : MF → MF) : List MF := ms.map fun m => if m.g = g then f m else m
theorem WMem.set_file (h : WMem B0 w wb nb fb kb ns ms kl next) {m0 : MF} (hm0 : m0 ∈ ms) (i : Nat) (v : Value) (f : MF → MF) (hf : ∀ m, (f m).id = m.id ∧ (f m).g = m.g ∧ (f m).data = m.data ∧ (f m).A = m.A ∧ (f m).n = m.n) (hc : (f m0).cells = m0.cells.setIfInBounds i v) :
    WMem B0 (w.setCell ⟨m0.g, i, none⟩ v) wb nb fb kb ns (setMF ms m0.g f) kl next := by
  have hb0 := h.fblk m0 hm0
  have hg : w.grownBy (w.setCell ⟨m0.g, i, none⟩ v) (some m0.g) := grown_setCell w ⟨m0.g, i, none⟩ _
  have hx : wb ≠ m0.g := fun e => by
    have h1 := h.blk
    unfold Blk at h1 hb0
    rw [← e, h1] at hb0
    injection hb0 with h2; injection h2 with _ h2; cases h2
  have same : ∀ m ∈ ms, m.g = m0.g → m = m0 := fun m hm e => by
    rcases List.mem_iff_getElem.1 hm with ⟨a, ha, rfl⟩
    rcases List.mem_iff_getElem.1 hm0 with ⟨b, hb, rfl⟩
    rcases Nat.lt_trichotomy a b with hlt | rfl | hlt
    · exact absurd e (List.pairwise_iff_getElem.1 h.gs a b ha hb hlt)
    · rfl
    · exact absurd e.symm (List.pairwise_iff_getElem.1 h.gs b a hb ha hlt)
  have he : msE (setMF ms m0.g f) = msE ms := by
    simp only [msE, setMF, List.map_map]
    refine List.map_congr_left fun m _ => ?_
    simp only [Function.comp, MF.ent]
    split <;> simp [hf]
  have hfr := Fr.setCell (i := i) hb0 (.inr rfl) (h.fnew m0 hm0) v
  refine ⟨h.blk.set_ne _ _ hx, h.nodes.kept hg (fun e => by injection e with e; exact hb0.ne_map h.nodes e.symm), he ▸ h.files.kept hg (fun e => by injection e with e; exact hb0.ne_map h.files e.symm), h.kids.kept hg (fun e => by injection e with e; exact hb0.ne_map h.kids e.symm), ?_, ?_, ?_, ?_, h.new, h.ne⟩
  · unfold setMF
    rw [List.pairwise_map]
    refine h.gs.imp fun {x y} hne => ?_
    have e : ∀ z : MF, (if z.g = m0.g then f z else z).g = z.g := fun z => by split <;> simp [hf]
    rw [e, e]
    exact hne
  · intro m hm
    obtain ⟨m1, hm1, rfl⟩ := List.mem_map.1 hm
    split
    · rename_i e
      obtain rfl := same m1 hm1 e
      rw [hc, (hf _).2.1]
      exact hb0.set i v
    · rename_i e
      exact (h.fblk m1 hm1).set_ne _ _ e
  · intro m hm
    obtain ⟨m1, hm1, rfl⟩ := List.mem_map.1 hm
    have := h.dat hfr.below m1 hm1
    split
    · obtain ⟨_, _, e3, e4, e5⟩ := hf m1
      rw [e3, e4, e5]
      exact this
    · exact this
  · intro m hm
    obtain ⟨m1, hm1, rfl⟩ := List.mem_map.1 hm
    have := h.fnew m1 hm1
    split
    · rw [(hf m1).2.1]; exact this
    · exact this
end
/-- How many names a file has; how many nodes stand in a directory. -/
def namesC (l : List Node) (i : Int) : Nat := l.countP fun x => decide (x.file = i)
def kidsC (l : List Node) (p : ByteArray) : Nat := l.countP fun x => decide (parentB x.path = p)
/-- What the maps of a world say of each other. -/
structure WOk (M : PW) (s : Nat) (ms : List MF) (kl : List (ByteArray × Value)) : Prop where
  mfs : ms.map MF.pf = M.files
  cnt : ∀ m ∈ ms, m.cnt = namesC M.nodes m.id
  kid : ∀ p, (getV kl p).getD (.int .i64 0) = .int .i64 (kidsC M.nodes p)
  kmax : kl.length ≤ s
def WorldAt (B0 : Nat) (w : World) (wb : Nat) (M : PW) (s : Nat) : Prop := ∃ nb fb kb ms kl, WMem B0 w wb nb fb kb (nodesE M.nodes) ms kl M.next ∧ WOk M s ms kl
theorem WorldAt.size {B0 wb s : Nat} {w : World} {M : PW} (h : WorldAt B0 w wb M s) : B0 ≤ w.heap.size := by obtain ⟨_, _, _, _, _, h, _⟩ := h; exact h.size
theorem WorldAt.keep {B0 wb s : Nat} {w w' : World} {M : PW} (h : WorldAt B0 w wb M s) (hg : w.grownBy w' none) : WorldAt B0 w' wb M s := by
  obtain ⟨nb, fb, kb, ms, kl, h1, h2⟩ := h
  exact ⟨nb, fb, kb, ms, kl, h1.keep hg, h2⟩
theorem WorldAt.mono {B0 wb s s' : Nat} {w : World} {M : PW} (h : WorldAt B0 w wb M s) (hs : s ≤ s') : WorldAt B0 w wb M s' := by
  obtain ⟨nb, fb, kb, ms, kl, h1, h2⟩ := h
  exact ⟨nb, fb, kb, ms, kl, h1, ⟨h2.mfs, h2.cnt, h2.kid, Nat.le_trans h2.kmax hs⟩⟩
end Go.Proofs.Ytanaccoelifcpaa
