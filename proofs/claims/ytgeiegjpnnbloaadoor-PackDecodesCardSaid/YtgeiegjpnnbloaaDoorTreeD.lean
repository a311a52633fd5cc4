/- A tree with its files' bytes; two trees compared. -/
import Derived.Test.YtgeiegjpnnbloaaDoorTreeV
import Derived.Test.YtgeiegjpnnbloaaDoorKit
import Derived.Test.YtgeiegjpnnbloaaDoorRef5
namespace Go.Proofs.YtgeiegjpnnbloaaDoor
open Go.RowKit

/-- Bytes as cells. -/
def bytesC (d : ByteArray) : List Value := d.data.toList.map fun b => .int .u8 b.toNat
theorem bytesC_length (d : ByteArray) : (bytesC d).length = d.size := by simp [bytesC]
theorem bytesC_one (d : ByteArray) : ∀ u ∈ bytesC d, u.oneCell' = true := by
  intro u hu
  obtain ⟨b, _, rfl⟩ := List.mem_map.1 hu
  rfl
/-- The files' bytes. -/
structure DatAt (w : World) (fs : List FC) (ds : List ByteArray) : Prop where
  len : ds.length = fs.length
  at_ : ∀ (k : Nat) (x : FC) (d : ByteArray), fs[k]? = some x → ds[k]? = some d → d.size = x.n ∧ Sl w w.heap.size 1 x.A x.n (bytesC d)
theorem DatAt.keep {w w' : World} {fs : List FC} {ds : List ByteArray} (h : DatAt w fs ds) (hb : Below w.heap.size w w') : DatAt w' fs ds :=
  ⟨h.len, fun k x d hx hd => ⟨(h.at_ k x d hx hd).1, (h.at_ k x d hx hd).2.keep hb.size hb.block⟩⟩
theorem DatAt.get {w : World} {fs : List FC} {ds : List ByteArray} (h : DatAt w fs ds) {k : Nat} {x : FC} (hx : fs[k]? = some x) : ∃ d, ds[k]? = some d ∧ d.size = x.n ∧ Sl w w.heap.size 1 x.A x.n (bytesC d) := by
  have hk : k < ds.length := by rw [h.len]; exact (List.getElem?_eq_some_iff.1 hx).1
  exact ⟨ds[k], List.getElem?_eq_getElem hk, h.at_ k x _ hx (List.getElem?_eq_getElem hk)⟩
structure TreeD (w : World) (t : TV) (ds : List ByteArray) : Prop where
  tree : TreeAt w t
  dat : DatAt w t.files ds
theorem TreeD.keep {w w' : World} {t : TV} {ds : List ByteArray} (h : TreeD w t ds) (hb : Below w.heap.size w w') : TreeD w' t ds := ⟨h.tree.keep hb, h.dat.keep hb⟩

theorem toList_inj {a b : ByteArray} (h : a.toList = b.toList) : a = b := by
  rw [ByteArray.toList_eq, ByteArray.toList_eq] at h
  exact ba_ext h
theorem toList_iff {a b : ByteArray} : a.toList = b.toList ↔ a = b := ⟨toList_inj, fun h => by rw [h]⟩
theorem bytes_str (xs : List Int) (d : ByteArray) (h : xs.map (Value.int .u8) = bytesC d) : strOfNums xs = d := by
  apply ba_ext
  have e : xs = d.data.toList.map fun b => (b.toNat : Int) := by
    have : xs.map (Value.int .u8) = (d.data.toList.map fun b => (b.toNat : Int)).map (Value.int .u8) := by rw [h, bytesC, List.map_map]; rfl
    exact List.map_inj_right (fun a b h => by injection h) |>.1 this
  rw [strOfNums_data, e, List.map_map]
  simp [Function.comp_def]
/-- string(b). -/
theorem run_conv {w : World} {B n c : Nat} {A : Option Addr} {d : ByteArray} (h : Sl w B 1 A n (bytesC d)) (hn : d.size = n) :
    (convert 22 9 (.slice A n c)).run Tryd.prog w = .ok (.string d) w := by
  have hA0 : n = 0 → d = ByteArray.empty := fun h0 => ba_ext (List.eq_nil_of_length_eq_zero (by rw [dlen]; omega))
  have key : ∀ b o, A = some ⟨b, o, none⟩ → (∀ i, i < n → w.cell? ⟨b, o + i, none⟩ = some (.int .u8 ((d.data.toList.map fun b => (b.toNat : Int)).getD i 0))) → (convert 22 9 (.slice A n c)).run Tryd.prog w = .ok (.string d) w := by
    rintro b o rfl hc
    have := run_convert_bytes_arg w 22 5 Tryd.underlying22 Tryd.underlying5 b o n c (d.data.toList.map fun b => (b.toNat : Int)) (by simp [hn]) hc 9 Tryd.underlying9
    rwa [bytes_str _ d (by rw [bytesC, List.map_map]; rfl)] at this
  rcases Nat.eq_zero_or_pos n with h0 | h0
  · rcases A with _ | a
    · rw [hA0 h0]; exact run_convert_bytes_nil w 22 5 Tryd.underlying22 Tryd.underlying5 _ _ 9 Tryd.underlying9
    · subst h0
      rw [run_convert_bytes_string w 22 9 5 _ 0 c Tryd.underlying22 Tryd.underlying5 Tryd.underlying9, run_bytesToString w a 0 c [] (by simpa using run_loadCells_list (P := Tryd.prog) w a [] (by simp)), hA0 rfl]
      rfl
  · obtain ⟨b, o, e, _, hr⟩ := h.2 h0
    refine key b o e fun i hi => hr i _ ?_
    have hi' : i < d.data.toList.length := by simp; omega
    simp [bytesC, List.getD, List.getElem?_eq_getElem hi', List.getElem?_map]
theorem exec_conv {o : Oper} {a : Act} {w : World} {x : Operand} {B n c : Nat} {A : Option Addr} {d : ByteArray} (ho : o.op = .convert 22 9 x) (hx : a.eval x = .slice A n c) (h : Sl w B 1 A n (bytesC d)) (hn : d.size = n) :
    (execOp a.eval o).run Tryd.prog w = .ok (.value (.string d)) w := by
  unfold execOp
  simp only [ho, hx, Sem.run_bind, Sem.run_pure, run_conv h hn, Result.andThen_ok]
theorem Sl.held {w0 w' : World} {B sz n : Nat} {A : Option Addr} {L : List Value} {row : Option Nat} (h : Sl w0 B sz A n L) (hB : B ≤ w0.heap.size) (hr : row = none) (hh : ∀ b, b < w0.heap.size → some b ≠ row → w'.heap[b]? = w0.heap[b]?) : Sl w' B sz A n L :=
  h.keep (Nat.le_refl _) fun k hk => hh k (by omega) (by rw [hr]; simp)

/-- '==' of two nodes, as the program reckons it. -/
def Node.eqb (x y : Node) : Bool := x.path.toList == y.path.toList && (x.file == y.file && x.mode == y.mode)
theorem Node.eqb_iff {x y : Node} : x.eqb y = true ↔ x = y := by
  obtain ⟨a, b, c, _⟩ := x
  obtain ⟨a', b', c', _⟩ := y
  simp [Node.eqb, toList_iff]
theorem Node.eqb_self (x : Node) : x.eqb x = true := Node.eqb_iff.2 rfl
theorem Node.eqb_ne {x y : Node} (h : x ≠ y) : x.eqb y = false := by
  cases hb : x.eqb y
  · rfl
  · exact absurd (Node.eqb_iff.1 hb) h
instance : DecidableEq Node := fun _ _ => decidable_of_iff _ Node.eqb_iff
/-- '==' of two nodes, over their cells. -/
def nodeEq (a0 b0 : ByteArray) (a1 a2 b1 b2 : Int) : Bool := a0.toList == b0.toList && (a1 == b1 && a2 == b2)
/-- Are two trees one, as they stand? -/
def exactB (t u : TV) (ds es : List ByteArray) : Bool := decide (t.nodes = u.nodes) && (decide (t.files.map (·.mode) = u.files.map (·.mode)) && decide (ds = es))
end Go.Proofs.YtgeiegjpnnbloaaDoor
