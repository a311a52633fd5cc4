/- What shuntref19.read leans on. -/
import Derived.Test.YtgeiegjpnnbloaaDoorReadP
import Derived.Test.YtgeiegjpnnbloaaDoorQBody
import Derived.Test.YtgeiegjpnnbloaaDoorScriptW
import Derived.Test.YtgeiegjpnnbloaaDoorQOf
import Derived.Test.YtgeiegjpnnbloaaDoorSameS
import Derived.Great.BuildSlice
namespace Go.Proofs.YtgeiegjpnnbloaaDoor
open Go.ChangeShapes Go.WideShapes Go.ChangeAt Go.ChangeMaps Go.RowKit Go.Deep

theorem u8_set (l : List UInt8) (k : Nat) (x : UInt8) : (l.flatMap u8L).set k (.int .u8 (x.toNat : Nat)) = (l.set k x).flatMap u8L := by
  rw [← map_u8, ← map_u8, List.map_set]
theorem u8_get (l : List UInt8) {k : Nat} (h : k < l.length) : (l.flatMap u8L)[k]? = some (.int .u8 (l[k].toNat : Nat)) := by
  rw [← map_u8, List.getElem?_map, List.getElem?_eq_getElem h]; rfl
theorem Scr.cell_frm {s : Scr} (h1 : s.frm.length = 32) {k : Nat} (hk : k < 32) : ∃ y, s.C[k]? = some (.int .u8 y) := by
  refine ⟨((s.frm[k]'(by rw [h1]; exact hk)).toNat : Nat), ?_⟩
  unfold Scr.C Scr.L
  rw [List.getElem?_toArray, List.getElem?_append_left (by rw [u8_len, h1]; exact hk), u8_get _ (by rw [h1]; exact hk)]
theorem Scr.cell_goal {s : Scr} (h1 : s.frm.length = 32) (h2 : s.goal.length = 32) {k : Nat} (hk : k < 32) : ∃ y, s.C[32 + k]? = some (.int .u8 y) := by
  refine ⟨((s.goal[k]'(by rw [h2]; exact hk)).toNat : Nat), ?_⟩
  unfold Scr.C Scr.L
  rw [List.getElem?_toArray, List.getElem?_append_right (by rw [u8_len, h1]; omega), u8_len, h1, show 32 + k - 32 = k by omega, List.getElem?_append_left (by rw [u8_len, h2]; exact hk), u8_get _ (by rw [h2]; exact hk)]
theorem set_frm {t : Scr} (h : t.frm.length = 32) {k : Nat} (hk : k < 32) (x : UInt8) : t.C.setIfInBounds k (.int .u8 (x.toNat : Nat)) = (⟨t.frm.set k x, t.goal, t.pb, t.pi, t.ins, t.refs, t.IA, t.il, t.ic, t.RA, t.rl, t.rc⟩ : Scr).C := by
  unfold Scr.C Scr.L
  rw [List.setIfInBounds_toArray, List.set_append_left _ _ (by rw [u8_len, h]; exact hk), u8_set]
theorem set_goal {t : Scr} (h : t.frm.length = 32) (hg : t.goal.length = 32) {k : Nat} (hk : k < 32) (x : UInt8) : t.C.setIfInBounds (32 + k) (.int .u8 (x.toNat : Nat)) = (⟨t.frm, t.goal.set k x, t.pb, t.pi, t.ins, t.refs, t.IA, t.il, t.ic, t.RA, t.rl, t.rc⟩ : Scr).C := by
  unfold Scr.C Scr.L
  rw [List.setIfInBounds_toArray, List.set_append_right _ _ (by rw [u8_len, h]; omega), u8_len, h, show 32 + k - 32 = k by omega, List.set_append_left _ _ (by rw [u8_len, hg]; exact hk), u8_set]
theorem set_refs {t : Scr} (h : t.frm.length = 32) (hg : t.goal.length = 32) {l : List (Int × List UInt8)} {A : Option Addr} {n c : Nat} : t.C.setIfInBounds 66 (.slice A n c) = (⟨t.frm, t.goal, t.pb, t.pi, t.ins, l, t.IA, t.il, t.ic, A, n, c⟩ : Scr).C := by
  have e1 : (t.frm.flatMap u8L).length = 32 := by rw [u8_len, h]
  have e2 : (t.goal.flatMap u8L).length = 32 := by rw [u8_len, hg]
  unfold Scr.C Scr.L
  rw [List.setIfInBounds_toArray, List.set_append_right _ _ (by omega), List.set_append_right _ _ (by omega)]
  congr 3
  rw [show 66 - (t.frm.flatMap u8L).length - (t.goal.flatMap u8L).length = 2 by omega]
  rfl
theorem set_insR {t : Scr} (h : t.frm.length = 32) (hg : t.goal.length = 32) {l : List Ins} {A : Option Addr} {n c : Nat} : t.C.setIfInBounds 65 (.slice A n c) = (⟨t.frm, t.goal, t.pb, t.pi, l, t.refs, A, n, c, t.RA, t.rl, t.rc⟩ : Scr).C := by
  have e1 : (t.frm.flatMap u8L).length = 32 := by rw [u8_len, h]
  have e2 : (t.goal.flatMap u8L).length = 32 := by rw [u8_len, hg]
  unfold Scr.C Scr.L
  rw [List.setIfInBounds_toArray, List.set_append_right _ _ (by omega), List.set_append_right _ _ (by omega)]
  congr 3
  rw [show 65 - (t.frm.flatMap u8L).length - (t.goal.flatMap u8L).length = 1 by omega]
  rfl
/-- A digest of which k bytes are there. -/
def part32 (l : List UInt8) (k : Nat) : List UInt8 := l.take k ++ List.replicate (32 - k) 0
theorem part32_len {l : List UInt8} {k : Nat} (h : 32 ≤ l.length) (hk : k ≤ 32) : (part32 l k).length = 32 := by
  unfold part32; rw [List.length_append, List.length_take, List.length_replicate]; omega
theorem part32_zero (l : List UInt8) : part32 l 0 = zero32 := rfl
theorem part32_all (l : List UInt8) : part32 l 32 = l.take 32 := by unfold part32; rw [Nat.sub_self, List.replicate_zero, List.append_nil]
theorem part32_set {l : List UInt8} {k : Nat} (hk : k < 32) {x : UInt8} (hx : l[k]? = some x) : (part32 l k).set k x = part32 l (k + 1) := by
  have hl := (List.getElem?_eq_some_iff.1 hx).1
  unfold part32
  have e1 : (l.take k).length = k := by rw [List.length_take]; omega
  rw [List.set_append_right _ _ (by omega), e1, Nat.sub_self, show 32 - k = (32 - (k + 1)) + 1 by omega, List.replicate_succ, List.set_cons_zero, List.take_add_one, hx, List.append_assoc]
  rfl
/-- The two blocks of a reading: what is handed back, and the script. -/
structure RdC (w wr : World) (C : Array Value) : Prop where
  blk : Blk wr (w.heap.size + 1) 30 C
  zero : Blk wr w.heap.size 30 zeroScr.C
  below : Below w.heap.size w wr
theorem RdC.lt {w wr : World} {C : Array Value} (h : RdC w wr C) : w.heap.size + 2 ≤ wr.heap.size := by have := h.blk.lt; omega
theorem RdC.keep {w wr w2 : World} {C : Array Value} (h : RdC w wr C) (hb : Below wr.heap.size wr w2) : RdC w w2 C :=
  ⟨h.blk.below hb h.blk.lt, h.zero.below hb h.zero.lt, h.below.trans (hb.mono h.below.size)⟩
theorem RdC.grow {w wr w2 : World} {C : Array Value} (h : RdC w wr C) {row : Option Nat} (hg : wr.grownBy w2 row) (hr : ∀ q, row = some q → w.heap.size + 2 ≤ q) : RdC w w2 C :=
  ⟨h.blk.keep (hg.block _ h.blk.lt (fun e => by have := hr _ e.symm; omega)), h.zero.keep (hg.block _ h.zero.lt (fun e => by have := hr _ e.symm; omega)), h.below.trans (below_grown (B := w.heap.size) hg h.below.size (fun q e => by have := hr _ e; omega))⟩
theorem RdC.set {w wr : World} {C : Array Value} (h : RdC w wr C) (i : Nat) (v : Value) : RdC w (wr.setCell ⟨w.heap.size + 1, i, none⟩ v) (C.setIfInBounds i v) := by
  have hgs := grown_put wr (w.heap.size + 1) i v
  exact ⟨h.blk.set i v, h.zero.keep (hgs.block _ h.zero.lt (fun e => by injection e with e; omega)), h.below.trans (below_grown (B := w.heap.size) hgs h.below.size (fun q e => by injection e with e; omega))⟩
/-- An own row is left as it is by what grows one other block. -/
theorem own_grow {w w' : World} {base e sz n c : Nat} {A : Option Addr} {L : List Value} (h : w.ownsRow base e sz (.slice A n c) n L) {row : Option Nat} (hg : w.grownBy w' row) (hr : ∀ q, row = some q → blkOf A ≠ some q) : w'.ownsRow base e sz (.slice A n c) n L :=
  own_keep h fun q o e => hg.block q (own_in h q o e) (fun e2 => hr q e2.symm (by rw [e]; rfl))
theorem Tryd.refT : ElemT Tryd.prog 28 58 33 40 :=
  ElemT.mk' (z := .agg (refC (0, zero32)).toArray) Tryd.underlying28 (by kernel_rfl) (by kernel_rfl) (by decide)
structure FitS (s : Scr) : Prop where
  p1 : 0 ≤ s.pb
  p2 : s.pb < 4294967296
  q1 : 0 ≤ s.pi
  q2 : s.pi < 4294967296
  il : s.il ≤ 65535
  rl : s.rl ≤ 65535
  ins : ∀ x ∈ s.ins, FitI x
  refs : ∀ r ∈ s.refs, 0 ≤ r.1 ∧ r.1 ≤ 65535
/-- The rows of a script are blocks from B on. -/
structure OwnS (B : Nat) (w : World) (s : Scr) : Prop where
  irow : w.ownsRow B 42 5 (.slice s.IA s.il s.ic) s.il (insL s.ins)
  rrow : w.ownsRow B 58 33 (.slice s.RA s.rl s.rc) s.rl (s.refs.flatMap refC)
theorem OwnS.keep {B : Nat} {w w2 : World} {s : Scr} (h : OwnS B w s) (hb : Below w.heap.size w w2) : OwnS B w2 s :=
  ⟨own_grow h.irow (grown_below (row := none) hb (Nat.le_refl _)) (fun q e => by cases e), own_grow h.rrow (grown_below (row := none) hb (Nat.le_refl _)) (fun q e => by cases e)⟩
theorem OwnS.put {B q : Nat} {w w2 : World} {s : Scr} (h : OwnS B w s) (hg : w.grownBy w2 (some q)) (hq : q < B) : OwnS B w2 s :=
  ⟨own_grow h.irow hg (fun r e e2 => by injection e with e; have := own_blkP h.irow _ e2; omega), own_grow h.rrow hg (fun r e e2 => by injection e with e; have := own_blkP h.rrow _ e2; omega)⟩
theorem OwnS.scr {B : Nat} {w w2 : World} {s : Scr} (h : OwnS B w2 s) (hs : ScrAt w s) : ScrAt w2 s := { hs with is := Sl.of_own h.irow, rs := Sl.of_own h.rrow }
def QReadRes (l : List UInt8) (w : World) (e : Ending) (w' : World) : Prop :=
  ∃ (s : Scr) (ok : Bool), e = .returned (.tuple #[.agg s.C, .bool ok]) ∧ ScrAt w' s ∧ Below w.heap.size w w' ∧ FitS s ∧ WfS s ∧ (∀ s0, EncOf s0 l → ok = true ∧ EqS s s0) ∧ OwnS w.heap.size w' s
theorem RdC.scr {w wr w2 : World} {s : Scr} (h : RdC w wr s.C) (hi : wr.ownsRow (w.heap.size + 2) 42 5 (.slice s.IA s.il s.ic) s.il (insL s.ins)) (hr : wr.ownsRow (w.heap.size + 2) 58 33 (.slice s.RA s.rl s.rc) s.rl (s.refs.flatMap refC))
    (hg : wr.grownBy w2 (some w.heap.size)) (hw : WfS s) (hf : FitS s) : ScrAt w2 s ∧ Below w.heap.size w w2 ∧ OwnS w.heap.size w2 s := by
  have h1 := own_grow hi hg (fun q e e2 => by injection e with e; have := own_blkP hi _ e2; omega)
  have h2 := own_grow hr hg (fun q e e2 => by injection e with e; have := own_blkP hr _ e2; omega)
  have := hf.p1; have := hf.p2; have := hf.q1; have := hf.q2; have := hf.il; have := hf.rl
  exact ⟨⟨hw.fl, hw.gl, by omega, by omega, hw.il, hw.rl, Sl.of_own h1, Sl.of_own h2, by unfold maxLen; omega, by unfold maxLen; omega, hw.r32⟩, h.below.trans (below_grown (B := w.heap.size) hg h.below.size (fun q e => by injection e with e; omega)), own_lower h1 (by omega), own_lower h2 (by omega)⟩
/-- The script when some refs and instructions are read. -/
def rdS (l : List UInt8) (pb pi : Nat) (xs : List Ins) (IA : Option Addr) (j ic : Nat) (rs : List (Int × List UInt8)) (RA : Option Addr) (k rc : Nat) : Scr := ⟨(l.drop 5).take 32, (l.drop 37).take 32, pb, pi, xs, rs, IA, j, ic, RA, k, rc⟩
structure RefQ (l : List UInt8) (w : World) (pb pi n k : Nat) (RA : Option Addr) (rc : Nat) (rs : List (Int × List UInt8)) (wr : World) : Prop where
  c : RdC w wr (rdS l pb pi [] none 0 0 rs RA k rc).C
  row : wr.ownsRow (w.heap.size + 2) 58 33 (.slice RA k rc) k (rs.flatMap refC)
  len : rs.length = k
  r32 : ∀ r ∈ rs, r.2.length = 32
  r16 : ∀ r ∈ rs, 0 ≤ r.1 ∧ r.1 ≤ 65535
  pos : 81 + 34 * k + 4 ≤ n
  inv : ∀ s0, EncOf s0 l → rs = s0.refs.take k ∧ l.drop (81 + 34 * k) = (s0.refs.drop k).flatMap refL ++ (s0.ins.flatMap recL ++ tlL s0)
structure InsQ (l : List UInt8) (w : World) (pb pi n j at_ : Nat) (IA : Option Addr) (ic : Nat) (xs : List Ins) (RA : Option Addr) (k rc : Nat) (rs : List (Int × List UInt8)) (wr : World) : Prop where
  c : RdC w wr (rdS l pb pi xs IA j ic rs RA k rc).C
  irow : wr.ownsRow (w.heap.size + 2) 42 5 (.slice IA j ic) j (insL xs)
  rrow : wr.ownsRow (w.heap.size + 2) 58 33 (.slice RA k rc) k (rs.flatMap refC)
  len : xs.length = j
  fit : ∀ x ∈ xs, FitI x
  pos : at_ + 4 ≤ n
  inv : ∀ s0, EncOf s0 l → xs = s0.ins.take j ∧ l.drop at_ = (s0.ins.drop j).flatMap recL ++ tlL s0
theorem rd_fl {l : List UInt8} (h : 85 ≤ l.length) : ((l.drop 5).take 32).length = 32 := by rw [List.length_take, List.length_drop]; omega
theorem rd_gl {l : List UInt8} (h : 85 ≤ l.length) : ((l.drop 37).take 32).length = 32 := by rw [List.length_take, List.length_drop]; omega
theorem rd_wf {l : List UInt8} {pb pi : Nat} {xs : List Ins} {IA : Option Addr} {j ic : Nat} {rs : List (Int × List UInt8)} {RA : Option Addr} {k rc : Nat} (hl : 85 ≤ l.length) (h1 : xs.length = j) (h2 : rs.length = k) (h3 : ∀ r ∈ rs, r.2.length = 32) : WfS (rdS l pb pi xs IA j ic rs RA k rc) :=
  ⟨rd_fl hl, rd_gl hl, h1, h2, h3⟩
theorem rd_fit {l : List UInt8} {pb pi : Nat} {xs : List Ins} {IA : Option Addr} {j ic : Nat} {rs : List (Int × List UInt8)} {RA : Option Addr} {k rc : Nat} (h1 : pb < 4294967296) (h2 : pi < 4294967296) (hj : j ≤ 65535) (hk : k ≤ 65535) (h3 : ∀ x ∈ xs, FitI x) (h4 : ∀ r ∈ rs, 0 ≤ r.1 ∧ r.1 ≤ 65535) : FitS (rdS l pb pi xs IA j ic rs RA k rc) :=
  ⟨Int.natCast_nonneg _, by show (pb : Int) < _; omega, Int.natCast_nonneg _, by show (pi : Int) < _; omega, hj, hk, h3, h4⟩
theorem RefQ.stuck {l : List UInt8} {w : World} {pb pi n k : Nat} {RA : Option Addr} {rc : Nat} {rs : List (Int × List UInt8)} {wr : World} (h : RefQ l w pb pi n k RA rc rs wr) (hn : l.length = n) {rl : Nat} (hrl : deN ((l.drop 79).take 2) = rl) (hk : k < rl) (he : ¬ 81 + 34 * k + 34 + 4 ≤ n) (s0 : Scr) (h0 : EncOf s0 l) : False := by
  obtain ⟨_, hd⟩ := h.inv s0 h0
  have e := h0.head.rl
  rw [hrl] at e
  have hp := h.pos
  obtain ⟨r, _, _, _, _, h5⟩ := step_ref hd (by rw [h0.wf.rl]; omega) h0.ok.refs h0.wf.r32 (by omega)
  rw [List.length_append, tlL_len] at h5
  omega
theorem refC_cell {a : Int} {d : List UInt8} (h : d.length = 32) {j : Nat} (hj : j < 32) : ∃ y, (refC (a, d)).toArray[1 + j]? = some (.int .u8 y) := by
  refine ⟨((d[j]'(by rw [h]; exact hj)).toNat : Nat), ?_⟩
  unfold refC
  rw [List.getElem?_toArray, Nat.add_comm, List.getElem?_cons_succ, u8_get _ (by rw [h]; exact hj)]
theorem refC_set {a : Int} {d : List UInt8} {j : Nat} (x : UInt8) : (refC (a, d)).toArray.setIfInBounds (1 + j) (.int .u8 (x.toNat : Nat)) = (refC (a, d.set j x)).toArray := by
  unfold refC
  rw [List.setIfInBounds_toArray, Nat.add_comm, List.set_cons_succ, u8_set]
theorem refC_size {a : Int} {d : List UInt8} (h : d.length = 32) : (refC (a, d)).toArray.size = 33 := by rw [List.size_toArray]; exact refC_len h
theorem RefQ.grow {l : List UInt8} {w : World} {pb pi n k : Nat} {RA : Option Addr} {rc : Nat} {rs : List (Int × List UInt8)} {wr W17 U : World} (h : RefQ l w pb pi n k RA rc rs wr) (hb : Below wr.heap.size wr W17) {g : Nat} (hg : W17.grownBy U (some g)) (hgr : wr.heap.size = g) : RefQ l w pb pi n k RA rc rs U := by
  have h1 := h.c.keep hb
  have hl := h.c.lt
  have h2 := h1.grow hg (fun q e => by injection e with e; omega)
  have r1 := own_grow h.row (grown_below (row := none) hb (Nat.le_refl _)) (fun q e => by cases e)
  have r2 := own_grow r1 hg (fun q e e2 => by
    injection e with e
    subst e
    cases hRA : RA with
    | none => rw [hRA] at e2; cases e2
    | some ad =>
      obtain ⟨qb, qo, qx⟩ := ad
      rw [hRA] at e2
      have e3 : qb = g := by injection e2
      rcases h.row.2 with ⟨hv, _⟩ | ⟨g', cap, cur, hv, hgb, hh, _⟩
      · injection hv with h1; rw [hRA] at h1; cases h1
      · injection hv with h1
        rw [hRA] at h1
        injection h1 with h1
        injection h1 with h1
        have := (Array.getElem?_eq_some_iff.1 hh).1
        omega)
  exact ⟨h2, r2, h.len, h.r32, h.r16, h.pos, h.inv⟩
/-- '[]T{x}' of a struct whose cells are a term. -/
theorem wpList_build_one {ops : Array Oper} {rest : List Oper} {o : Oper} {a : Act} {w : World} {Q : Exit → Act → World → Prop} (hg : o.guard = none) (t : TypeId) (x : Operand) (ho : o.op = .buildSlice t 1 #[(0, x)]) {e sz by_ : Nat} (T : ElemT Tryd.prog t e sz by_) (cs : Array Value) (hx : a.eval x = .agg cs) (hcs : cs.size = sz) (h24 : sz ≤ 2 ^ 24)
    (h : wpList Tryd.prog ops Q rest (a.put o.dst (.slice (some ⟨w.heap.size, 0, none⟩) 1 1)) (w.alloc (.cells cs e))) : wpList Tryd.prog ops Q (o :: rest) a w := by
  obtain ⟨ie, z, h1, h2, h3, h4, h5⟩ := T.hi
  have hp := T.pos
  refine wpList_buildSlice hg t e 1 _ ho cs ie z T.ht h1 h2 (by rw [h3]; omega) (by rw [h3]; omega) ?_ h
  rw [h3]
  have := Great.fill_whole hp [Value.agg cs] ((Array.range (1 * sz)).map (z.cells[· % z.cells.size]!)) (fun v hv => by rw [List.mem_singleton] at hv; rw [hv]; exact hcs) (by simp)
  have e1 : ((#[(0, x)] : Array (Nat × Operand)).map fun (i, x) => (i, a.eval x)).toList = (([Value.agg cs].zipIdx 0).map fun x => (x.2, x.1)) := by
    simp [hx]
  rw [e1, this]
  simp [Value.cells]
theorem InsQ.stuck {l : List UInt8} {w : World} {pb pi n j at_ : Nat} {IA : Option Addr} {ic : Nat} {xs : List Ins} {RA : Option Addr} {k rc : Nat} {rs : List (Int × List UInt8)} {wr : World} (h : InsQ l w pb pi n j at_ IA ic xs RA k rc rs wr) (hn : l.length = n) {il : Nat} (hil : deN ((l.drop 77).take 2) = il) (hj : j < il) (s0 : Scr) (h0 : EncOf s0 l) :
    ∃ x m, s0.ins[j]? = some x ∧ FitI x ∧ m = (bodyL x).length ∧ 7 ≤ m ∧ deN ((l.drop at_).take 1) = m ∧ (l.drop (at_ + 1)).take m = bodyL x ∧ l.drop (at_ + 5 + m) = (s0.ins.drop (j + 1)).flatMap recL ++ tlL s0 ∧ at_ + 5 + m + 4 ≤ n := by
  obtain ⟨_, hd⟩ := h.inv s0 h0
  have e := h0.head.il
  rw [hil] at e
  have hp := h.pos
  obtain ⟨x, m, h1, h2, h3, h4, h5, h6, h7, h8⟩ := step_rec hd (by rw [h0.wf.il]; omega) h0.ok.fit (by omega)
  rw [tlL_len] at h8
  exact ⟨x, m, h1, h2, h3, h4, h5, h6, h7, by omega⟩
theorem InsQ.keep {l : List UInt8} {w : World} {pb pi n j at_ : Nat} {IA : Option Addr} {ic : Nat} {xs : List Ins} {RA : Option Addr} {k rc : Nat} {rs : List (Int × List UInt8)} {wr w2 : World} (h : InsQ l w pb pi n j at_ IA ic xs RA k rc rs wr) (hb : Below wr.heap.size wr w2) : InsQ l w pb pi n j at_ IA ic xs RA k rc rs w2 :=
  ⟨h.c.keep hb, own_grow h.irow (grown_below (row := none) hb (Nat.le_refl _)) (fun q e => by cases e), own_grow h.rrow (grown_below (row := none) hb (Nat.le_refl _)) (fun q e => by cases e), h.len, h.fit, h.pos, h.inv⟩
theorem own_at {w : World} {base e sz n c : Nat} {A : Option Addr} {L : List Value} (h : w.ownsRow base e sz (.slice A n c) n L) {q : Nat} (hq : blkOf A = some q) : ∃ cur, w.heap[q]? = some (.cells cur e (0, 0)) := by
  rcases h.2 with ⟨hv, _⟩ | ⟨g, cap, cur, hv, _, hg, _⟩
  · injection hv with h1; rw [h1] at hq; cases hq
  · injection hv with h1
    rw [h1] at hq
    have e2 : some g = some q := hq
    injection e2 with e2
    subst e2
    exact ⟨cur, hg⟩
theorem own_ne {w : World} {base e sz n c base' e' sz' n' c' : Nat} {A A' : Option Addr} {L L' : List Value} (h : w.ownsRow base e sz (.slice A n c) n L) (h' : w.ownsRow base' e' sz' (.slice A' n' c') n' L') (hne : e ≠ e') : ∀ q, blkOf A = some q → blkOf A' ≠ some q := fun q h1 h2 => by
  obtain ⟨c1, e1⟩ := own_at h h1
  obtain ⟨c2, e2⟩ := own_at h' h2
  rw [e1] at e2
  injection e2 with e2
  injection e2 with _ e3
  exact hne e3
end Go.Proofs.YtgeiegjpnnbloaaDoor
