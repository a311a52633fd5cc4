/- api.Tree as Lean data; the small functions of package tree. -/
import Derived.Test.YtgeiegjpnnbloaaDoorKit
import Derived.Test.YtgeiegjpnnbloaaDoorPath
namespace Go.Proofs.YtgeiegjpnnbloaaDoor
open Go.RowKit

structure Node where
  path : ByteArray
  file : Int
  mode : Int
  hp : path.size ≤ 9223372036854775807
def Node.list (x : Node) : List Value := [.string x.path, .int .i64 x.file, .int .i64 x.mode]
theorem Node.len (x : Node) : x.list.length = 3 := rfl
/-- A file as its two cells. -/
structure FC where
  mode : Int
  A : Option Addr
  n : Nat
  c : Nat
def FC.list (x : FC) : List Value := [.int .i64 x.mode, .slice x.A x.n x.c]
theorem FC.len (x : FC) : x.list.length = 2 := rfl
/-- A tree's value. -/
structure TV where
  nodes : List Node
  files : List FC
  NA : Option Addr
  nn : Nat
  nc : Nat
  FA : Option Addr
  fn : Nat
  fc : Nat
def TV.val (t : TV) : Value := .agg #[.slice t.NA t.nn t.nc, .slice t.FA t.fn t.fc]
/-- What a tree's value is good for. -/
structure TreeAt (w : World) (t : TV) : Prop where
  nl : t.nodes.length = t.nn
  fl : t.files.length = t.fn
  ns : Sl w w.heap.size 3 t.NA t.nn (t.nodes.flatMap Node.list)
  fs : Sl w w.heap.size 2 t.FA t.fn (t.files.flatMap FC.list)
  nm : t.nn ≤ 9223372036854775807
  fm : t.fn ≤ 9223372036854775807
theorem TreeAt.keep {w w' : World} {t : TV} (h : TreeAt w t) (hb : Below w.heap.size w w') : TreeAt w' t :=
  { h with ns := h.ns.keep hb.size hb.block, fs := h.fs.keep hb.size hb.block }

/-- Is some file too long? -/
def anyLong (fs : List FC) : Bool := fs.any fun x => decide (8192 < x.n)
def IndexRes (fs : List FC) (w : World) (e : Ending) (w' : World) : Prop := ∃ i : Int, e = .returned (.int .i64 i) ∧ (anyLong fs = true ↔ 0 ≤ i) ∧ Below w.heap.size w w'
def boundB (t : TV) : Bool := decide (256 < t.nn) || decide (256 < t.fn) || anyLong t.files
end Go.Proofs.YtgeiegjpnnbloaaDoor
