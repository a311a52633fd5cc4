/- A stock of contents; an argument of type [][]byte, opened. -/
import Derived.Test.YtanaccoelifcpaaOpenT
namespace Go.Proofs.Ytanaccoelifcpaa
open Go.ChangeShapes Go.WideShapes Go.ChangeAt Go.RowKit Go.Deep

/-- A content of a stock, as it lies. -/
structure SC where
  A : Option Addr
  n : Nat
  c : Nat
def SC.list (x : SC) : List Value := [.slice x.A x.n x.c]
theorem SC.len (x : SC) : x.list.length = 1 := rfl
/-- A stock: a slice of slices of bytes. -/
structure StockAt (w : World) (A : Option Addr) (n : Nat) (ss : List SC) (ds : List ByteArray) : Prop where
  len : ss.length = n
  sl : Sl w w.heap.size 1 A n (ss.flatMap SC.list)
  dlen : ds.length = n
  dat : ∀ (k : Nat) (x : SC) (d : ByteArray), ss[k]? = some x → ds[k]? = some d → d.size = x.n ∧ Sl w w.heap.size 1 x.A x.n (bytesC d)
  nm : n ≤ 9223372036854775807
theorem StockAt.keep {w w' : World} {A : Option Addr} {n : Nat} {ss : List SC} {ds : List ByteArray} (h : StockAt w A n ss ds) (hb : Below w.heap.size w w') : StockAt w' A n ss ds :=
  ⟨h.len, h.sl.keep hb.size hb.block, h.dlen, fun k x d hx hd => ⟨(h.dat k x d hx hd).1, (h.dat k x d hx hd).2.keep hb.size hb.block⟩, h.nm⟩
theorem StockAt.nil (w : World) : StockAt w none 0 [] [] := ⟨rfl, ⟨rfl, fun h => absurd h (by omega)⟩, rfl, fun k x d h _ => (by simp at h), by omega⟩
instance : Inhabited SC := ⟨⟨none, 0, 0⟩⟩
section
variable {H : Type} {enc : TypeId × Value → H} {w : World} {base : Nat} {held : Bool}
def SQ (w : World) (x : SC) : Prop := ∃ d : ByteArray, d.size = x.n ∧ Sl w w.heap.size 1 x.A x.n (bytesC d)
theorem SC.of_cells {n : Nat} {cs : List Value} {x : DataW H × List MemPlace} (h : DataW.trod enc Try.prog w base (fun _ => true) held n 47 cs = some x) (hlt : ∀ p ∈ x.2, p.block < w.heap.size) : ∃ i : SC, cs = i.list ∧ SQ w i := by
  have hcs : ∃ a l c, cs = [.slice a l c] := by
    rcases DataW.trod_slice Try.underlying47 h with ⟨e, _⟩ | ⟨a, l, c, _, _, _, _, e, _⟩
    · exact ⟨_, _, _, e⟩
    · exact ⟨_, _, _, e⟩
  obtain ⟨a, l, c, rfl⟩ := hcs
  obtain ⟨d, hd, hS, _⟩ := open_bytes h hlt
  exact ⟨⟨a, l, c⟩, rfl, d, hd, hS⟩
theorem sdat_of : ∀ (fs : List SC), (∀ x ∈ fs, SQ w x) → ∃ ds : List ByteArray, ds.length = fs.length ∧ ∀ (k : Nat) (x : SC) (d : ByteArray), fs[k]? = some x → ds[k]? = some d → d.size = x.n ∧ Sl w w.heap.size 1 x.A x.n (bytesC d)
  | [], _ => ⟨[], rfl, fun k x d h _ => by simp at h⟩
  | x :: t, h => by
    obtain ⟨ds, hl, hd⟩ := sdat_of t fun y hy => h y (List.mem_cons_of_mem _ hy)
    obtain ⟨d, h1, h2⟩ := h x (List.mem_cons_self ..)
    refine ⟨d :: ds, by rw [List.length_cons, List.length_cons, hl], fun k y e hy he => ?_⟩
    cases k with
    | zero => simp at hy he; subst hy he; exact ⟨h1, h2⟩
    | succ k => exact hd k y e (by simpa using hy) (by simpa using he)
/-- A stock that came in. -/
theorem open_stock {fuel : Nat} {a : Option Addr} {len cap : Nat} {x : DataW H × List MemPlace} (h : DataW.trod enc Try.prog w base (fun _ => true) held fuel 27 [.slice a len cap] = some x) (hlt : ∀ p ∈ x.2, p.block < w.heap.size) :
    ∃ (ss : List SC) (sd : List ByteArray), StockAt w a len ss sd := by
  obtain ⟨ss, hl, hS, hQ, hc, hm⟩ := open_list (α := SC) (f := SC.list) (sz := 1) SC.len (by omega) (SQ w) Try.underlying27 (by kernel_rfl) (fun n cs x hx hp => SC.of_cells hx hp) h hlt
  obtain ⟨sd, h1, h2⟩ := sdat_of ss hQ
  unfold maxLen at hm
  exact ⟨ss, sd, ⟨hl, hS, h1.trans hl, h2, by omega⟩⟩
end
end Go.Proofs.Ytanaccoelifcpaa
