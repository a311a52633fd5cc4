/- pack.Encode of any script; what pack.script says of any bytes. -/
import Derived.Test.YtgeiegjpnnbloaaDoorDecP
import Derived.Test.YtgeiegjpnnbloaaDoorQEnc
import Derived.Test.YtgeiegjpnnbloaaDoorEncR
import Derived.Test.YtgeiegjpnnbloaaDoorInsG
import Derived.Test.YtgeiegjpnnbloaaDoorErrN
import Derived.Test.YtgeiegjpnnbloaaDoorScope2
namespace Go.Proofs.YtgeiegjpnnbloaaDoor
open Go.ChangeShapes Go.WideShapes Go.ChangeAt Go.ChangeMaps Go.RowKit Go.Deep

set_option maxRecDepth 100000 in
theorem encode_no (s : Scr) (w : World) (h1 : s.frm.length = 32) (h2 : s.goal.length = 32) (hchk : ∀ W, Below w.heap.size w W → Calls Tryd.prog 18 #[.agg s.C] W fun e w' => ∃ E : Int, e = .returned (.int .i64 E) ∧ E ≠ 0 ∧ Below W.heap.size W w') :
    Calls Tryd.prog 11 #[.agg s.C] w (fun e w' => ∃ E : Int, EncRes s E w e w' ∧ E ≠ 0) := by
  have hB := Blk.new w 30 s.C
  have hb := (Below.refl w.heap.size w).alloc (Nat.le_refl _) (.cells s.C 30)
  have hsz := Scr.size h1 h2
  obtain ⟨C, hC⟩ : ∃ C, s.C = C := ⟨_, rfl⟩
  rw [hC] at hB hb hchk hsz ⊢
  have HC := Lib.hid hchk
  clear hC hchk h1 h2
  go_enter Tryd.func11, Tryd.ntmps11
  go_wp2_with (first | (refine wpList_load_row rfl 30 (.tmp 1) rfl w.heap.size rfl 30 C (0, 0) _ hB Tryd.underlying30 rfl (by rw [hsz]; kernel_rfl) ?_) | (go_at_call 18; refine (HC.out _ hb).mono ?_; rintro e w1 ⟨E, rfl, hE, hb1⟩; have e0 : (E != 0) = true := bne_iff_ne.2 hE))
  go_ret2
  exact ⟨E, ⟨none, 0, 0, rfl, fun _ => ⟨rfl, rfl, rfl⟩, fun h => absurd h hE, hb.trans (hb1.mono hb.size)⟩, hE⟩
theorem encode_any (s : Scr) (w : World) (h : ScrAt w s) (hrm : s.rl ≤ 65535) (hpd : ∀ x ∈ s.ins, x.path.size ≤ 1000 ∧ x.dst.size ≤ 1000) (hxr : ∀ x ∈ s.ins, 0 ≤ x.ref ∧ x.ref ≤ 65535) (hrr : ∀ r ∈ s.refs, 0 ≤ r.1 ∧ r.1 ≤ 65535) :
    Calls Tryd.prog 11 #[.agg s.C] w (REncRes s w) := by
  by_cases hv : validS s
  · refine (encode_all s w h hrm hv.1 hpd (fun W hW => (check_any s W (h.keep hW) hpd hxr hrr).mono ?_)).mono ?_
    · rintro e w' ⟨E, he, hE, hb⟩
      rw [hE.2 hv] at he
      exact ⟨he, hb⟩
    · intro e w' he
      exact ⟨0, he, fun _ => hv, fun _ => rfl⟩
  · refine (encode_no s w h.fl h.gl (fun W hW => (check_any s W (h.keep hW) hpd hxr hrr).mono ?_)).mono ?_
    · rintro e w' ⟨E, he, hE, hb⟩
      exact ⟨E, he, fun h => hv (hE.1 h), hb⟩
    · rintro e w' ⟨E, he, hE⟩
      exact ⟨E, he, fun h => absurd h hE, fun h => absurd h hv⟩
/-- Why bytes are turned away. -/
inductive WhyE (l : List UInt8) (a0 a1 a2 : Addr) : Value → Prop
  | short (h : l.length < 85) : WhyE l a0 a1 a2 (errV a0)
  | sum (h : 85 ≤ l.length) (hc : ¬ crcGood l) : WhyE l a0 a1 a2 (errV a1)
  | no (h : 85 ≤ l.length) (hc : crcGood l) (hn : ∀ t, ¬ EncOf t l) : WhyE l a0 a1 a2 (errV a2)
def ScrRes (l : List UInt8) (a0 a1 a2 : Addr) (w : World) (e : Ending) (w' : World) : Prop :=
  ∃ s v, e = .returned (.tuple #[.agg s.C, v]) ∧ ScrAt w' s ∧ OwnS w.heap.size w' s ∧ Below w.heap.size w w' ∧ ((v = .nilIface ∧ EncOf s l ∧ FitS s) ∨ (s = zeroScr ∧ WhyE l a0 a1 a2 v))
def WrongAt (l : List UInt8) (a0 a1 a2 : Addr) (w : World) (a : Act) (wr : World) : Prop :=
  ∃ (u : Nat → Value) (v : Value) (C : Array Value), a = ⟨List.toArray (u 0 :: u 1 :: .pointer (some ⟨w.heap.size, 0, none⟩) :: v :: u 4 :: u 5 :: u 6 :: u 7 :: u 8 :: u 9 :: u 10 :: u 11 :: u 12 :: u 13 :: u 14 :: u 15 :: u 16 :: u 17 :: u 18 :: u 19 :: u 20 :: u 21 :: u 22 :: u 23 :: u 24 :: u 25 :: u 26 :: u 27 :: u 28 :: u 29 :: u 30 :: u 31 :: u 32 :: u 33 :: u 34 :: u 35 :: u 36 :: u 37 :: u 38 :: u 39 :: u 40 :: u 41 :: u 42 :: u 43 :: u 44 :: u 45 :: u 46 :: u 47 :: u 48 :: u 49 :: u 50 :: u 51 :: u 52 :: u 53 :: u 54 :: u 55 :: u 56 :: u 57 :: u 58 :: u 59 :: u 60 :: u 61 :: u 62 :: u 63 :: u 64 :: u 65 :: u 66 :: u 67 :: u 68 :: u 69 :: u 70 :: u 71 :: u 72 :: u 73 :: u 74 :: u 75 :: u 76 :: u 77 :: u 78 :: u 79 :: u 80 :: u 81 :: u 82 :: u 83 :: u 84 :: u 85 :: u 86 :: u 87 :: u 88 :: u 89 :: u 90 :: u 91 :: u 92 :: u 93 :: u 94 :: u 95 :: u 96 :: u 97 :: u 98 :: u 99 :: u 100 :: u 101 :: u 102 :: u 103 :: u 104 :: u 105 :: u 106 :: u 107 :: u 108 :: u 109 :: u 110 :: u 111 :: u 112 :: u 113 :: u 114 :: u 115 :: u 116 :: u 117 :: u 118 :: u 119 :: u 120 :: u 121 :: u 122 :: u 123 :: u 124 :: u 125 :: u 126 :: u 127 :: u 128 :: u 129 :: []), []⟩ ∧ Blk wr w.heap.size 30 C ∧ C.size = 67 ∧ Below w.heap.size w wr ∧ WhyE l a0 a1 a2 v
theorem WrongAt.mk {l : List UInt8} {a0 a1 a2 : Addr} {w : World} {a : Act} {wr : World} (v : Value) (C : Array Value) (h : a = ⟨List.toArray (a.tmps.getD 0 undef :: a.tmps.getD 1 undef :: .pointer (some ⟨w.heap.size, 0, none⟩) :: v :: a.tmps.getD 4 undef :: a.tmps.getD 5 undef :: a.tmps.getD 6 undef :: a.tmps.getD 7 undef :: a.tmps.getD 8 undef :: a.tmps.getD 9 undef :: a.tmps.getD 10 undef :: a.tmps.getD 11 undef :: a.tmps.getD 12 undef :: a.tmps.getD 13 undef :: a.tmps.getD 14 undef :: a.tmps.getD 15 undef :: a.tmps.getD 16 undef :: a.tmps.getD 17 undef :: a.tmps.getD 18 undef :: a.tmps.getD 19 undef :: a.tmps.getD 20 undef :: a.tmps.getD 21 undef :: a.tmps.getD 22 undef :: a.tmps.getD 23 undef :: a.tmps.getD 24 undef :: a.tmps.getD 25 undef :: a.tmps.getD 26 undef :: a.tmps.getD 27 undef :: a.tmps.getD 28 undef :: a.tmps.getD 29 undef :: a.tmps.getD 30 undef :: a.tmps.getD 31 undef :: a.tmps.getD 32 undef :: a.tmps.getD 33 undef :: a.tmps.getD 34 undef :: a.tmps.getD 35 undef :: a.tmps.getD 36 undef :: a.tmps.getD 37 undef :: a.tmps.getD 38 undef :: a.tmps.getD 39 undef :: a.tmps.getD 40 undef :: a.tmps.getD 41 undef :: a.tmps.getD 42 undef :: a.tmps.getD 43 undef :: a.tmps.getD 44 undef :: a.tmps.getD 45 undef :: a.tmps.getD 46 undef :: a.tmps.getD 47 undef :: a.tmps.getD 48 undef :: a.tmps.getD 49 undef :: a.tmps.getD 50 undef :: a.tmps.getD 51 undef :: a.tmps.getD 52 undef :: a.tmps.getD 53 undef :: a.tmps.getD 54 undef :: a.tmps.getD 55 undef :: a.tmps.getD 56 undef :: a.tmps.getD 57 undef :: a.tmps.getD 58 undef :: a.tmps.getD 59 undef :: a.tmps.getD 60 undef :: a.tmps.getD 61 undef :: a.tmps.getD 62 undef :: a.tmps.getD 63 undef :: a.tmps.getD 64 undef :: a.tmps.getD 65 undef :: a.tmps.getD 66 undef :: a.tmps.getD 67 undef :: a.tmps.getD 68 undef :: a.tmps.getD 69 undef :: a.tmps.getD 70 undef :: a.tmps.getD 71 undef :: a.tmps.getD 72 undef :: a.tmps.getD 73 undef :: a.tmps.getD 74 undef :: a.tmps.getD 75 undef :: a.tmps.getD 76 undef :: a.tmps.getD 77 undef :: a.tmps.getD 78 undef :: a.tmps.getD 79 undef :: a.tmps.getD 80 undef :: a.tmps.getD 81 undef :: a.tmps.getD 82 undef :: a.tmps.getD 83 undef :: a.tmps.getD 84 undef :: a.tmps.getD 85 undef :: a.tmps.getD 86 undef :: a.tmps.getD 87 undef :: a.tmps.getD 88 undef :: a.tmps.getD 89 undef :: a.tmps.getD 90 undef :: a.tmps.getD 91 undef :: a.tmps.getD 92 undef :: a.tmps.getD 93 undef :: a.tmps.getD 94 undef :: a.tmps.getD 95 undef :: a.tmps.getD 96 undef :: a.tmps.getD 97 undef :: a.tmps.getD 98 undef :: a.tmps.getD 99 undef :: a.tmps.getD 100 undef :: a.tmps.getD 101 undef :: a.tmps.getD 102 undef :: a.tmps.getD 103 undef :: a.tmps.getD 104 undef :: a.tmps.getD 105 undef :: a.tmps.getD 106 undef :: a.tmps.getD 107 undef :: a.tmps.getD 108 undef :: a.tmps.getD 109 undef :: a.tmps.getD 110 undef :: a.tmps.getD 111 undef :: a.tmps.getD 112 undef :: a.tmps.getD 113 undef :: a.tmps.getD 114 undef :: a.tmps.getD 115 undef :: a.tmps.getD 116 undef :: a.tmps.getD 117 undef :: a.tmps.getD 118 undef :: a.tmps.getD 119 undef :: a.tmps.getD 120 undef :: a.tmps.getD 121 undef :: a.tmps.getD 122 undef :: a.tmps.getD 123 undef :: a.tmps.getD 124 undef :: a.tmps.getD 125 undef :: a.tmps.getD 126 undef :: a.tmps.getD 127 undef :: a.tmps.getD 128 undef :: a.tmps.getD 129 undef :: []), []⟩) (hB : Blk wr w.heap.size 30 C) (hC : C.size = 67) (hb : Below w.heap.size w wr) (hv : WhyE l a0 a1 a2 v) : WrongAt l a0 a1 a2 w a wr :=
  ⟨fun i => a.tmps.getD i undef, v, C, h, hB, hC, hb, hv⟩
/-- While refs and records are read. -/
structure MoreQ (l frm goal : List UInt8) (pb pi il rl : Nat) (w : World) (j : Nat) (IA : Option Addr) (ic : Nat) (xs : List Ins) (k : Nat) (RA : Option Addr) (rc : Nat) (rs : List (Int × List UInt8)) (g : Nat) (st : RS) (wr : World) : Prop where
  blk : Blk wr w.heap.size 30 (⟨frm, goal, pb, pi, xs, rs, IA, j, ic, RA, k, rc⟩ : Scr).C
  irow : wr.ownsRow (w.heap.size + 1) 42 5 (.slice IA j ic) j (insL xs)
  rrow : wr.ownsRow (w.heap.size + 1) 58 33 (.slice RA k rc) k (rs.flatMap refC)
  rd : RdG wr g w.heap.size st
  below : Below w.heap.size w wr
  gl : w.heap.size < g
  xl : xs.length = j
  rl_ : rs.length = k
  jl : j ≤ il
  kl : k ≤ rl
  r32 : ∀ r ∈ rs, r.2.length = 32
  r16 : ∀ r ∈ rs, 0 ≤ r.1 ∧ r.1 ≤ 65535
  xp : ∀ x ∈ xs, x.path.size ≤ 1000 ∧ x.dst.size ≤ 1000
  xr : ∀ x ∈ xs, 0 ≤ x.ref ∧ x.ref ≤ 65535
  g85 : 85 ≤ l.length
  gcrc : crcGood l
  inv : ∀ s0, EncOf s0 l → rs = s0.refs.take k ∧ xs = s0.ins.take j ∧ st = ⟨(s0.refs.drop k).flatMap refL ++ ((s0.ins.drop j).flatMap recL ++ tlL s0), false⟩
structure HeadS (l frm goal : List UInt8) (pb pi il rl : Nat) : Prop where
  fl : frm.length = 32
  gl : goal.length = 32
  p1 : pb < 4294967296
  p2 : pi < 4294967296
  i1 : il < 65536
  r1 : rl < 65536
  inv : ∀ s0, EncOf s0 l → frm = s0.frm ∧ goal = s0.goal ∧ (pb : Int) = s0.pb ∧ (pi : Int) = s0.pi ∧ il = s0.il ∧ rl = s0.rl
theorem MoreQ.wf {l frm goal : List UInt8} {pb pi il rl : Nat} {w : World} {j : Nat} {IA : Option Addr} {ic : Nat} {xs : List Ins} {k : Nat} {RA : Option Addr} {rc : Nat} {rs : List (Int × List UInt8)} {g : Nat} {st : RS} {wr : World} (h : MoreQ l frm goal pb pi il rl w j IA ic xs k RA rc rs g st wr) (hh : HeadS l frm goal pb pi il rl) : WfS ⟨frm, goal, pb, pi, xs, rs, IA, j, ic, RA, k, rc⟩ := ⟨hh.fl, hh.gl, h.xl, h.rl_, h.r32⟩
theorem MoreQ.scr {l frm goal : List UInt8} {pb pi il rl : Nat} {w : World} {j : Nat} {IA : Option Addr} {ic : Nat} {xs : List Ins} {k : Nat} {RA : Option Addr} {rc : Nat} {rs : List (Int × List UInt8)} {g : Nat} {st : RS} {wr : World} (h : MoreQ l frm goal pb pi il rl w j IA ic xs k RA rc rs g st wr) (hh : HeadS l frm goal pb pi il rl) : ScrAt wr ⟨frm, goal, pb, pi, xs, rs, IA, j, ic, RA, k, rc⟩ := by
  have := h.jl; have := h.kl; have := hh.i1; have := hh.r1; have := hh.p1; have := hh.p2
  exact ⟨hh.fl, hh.gl, by show (pb : Int).natAbs < _; omega, by show (pi : Int).natAbs < _; omega, h.xl, h.rl_, Sl.of_own h.irow, Sl.of_own h.rrow, by show j ≤ maxLen; unfold maxLen; omega, by show k ≤ maxLen; unfold maxLen; omega, h.r32⟩
theorem MoreQ.fin {l frm goal : List UInt8} {pb pi il rl : Nat} {w : World} {j : Nat} {IA : Option Addr} {ic : Nat} {xs : List Ins} {k : Nat} {RA : Option Addr} {rc : Nat} {rs : List (Int × List UInt8)} {g : Nat} {st : RS} {wr : World} (h : MoreQ l frm goal pb pi il rl w j IA ic xs k RA rc rs g st wr) (hh : HeadS l frm goal pb pi il rl) (hj : j = il) (hk : k = rl) (t : Scr) (ht : EncOf t l) : EqS ⟨frm, goal, pb, pi, xs, rs, IA, j, ic, RA, k, rc⟩ t := by
  obtain ⟨e1, e2, _⟩ := h.inv t ht
  obtain ⟨f1, f2, f3, f4, f5, f6⟩ := hh.inv t ht
  refine ⟨f1, f2, f3, f4, ?_, ?_⟩
  · show xs = t.ins
    rw [e2, hj, f5, ← ht.wf.il, List.take_length]
  · show rs = t.refs
    rw [e1, hk, f6, ← ht.wf.rl, List.take_length]
def MoreG (l frm goal : List UInt8) (pb pi il rl : Nat) (A : Option Addr) (n c : Nat) (w : World) (a : Act) (wr : World) : Prop :=
  ∃ (u : Nat → Value) (j : Nat) (IA : Option Addr) (ic : Nat) (xs : List Ins) (k : Nat) (RA : Option Addr) (rc : Nat) (rs : List (Int × List UInt8)) (g : Nat) (st : RS), a = ⟨List.toArray (.slice A n c :: u 1 :: .pointer (some ⟨w.heap.size, 0, none⟩) :: .nilIface :: .pointer (some ⟨g, 0, none⟩) :: .int .i64 il :: .int .i64 rl :: u 7 :: u 8 :: u 9 :: u 10 :: u 11 :: u 12 :: u 13 :: u 14 :: u 15 :: u 16 :: u 17 :: u 18 :: u 19 :: u 20 :: u 21 :: u 22 :: u 23 :: u 24 :: u 25 :: u 26 :: u 27 :: u 28 :: u 29 :: u 30 :: u 31 :: u 32 :: u 33 :: u 34 :: u 35 :: u 36 :: u 37 :: u 38 :: u 39 :: u 40 :: u 41 :: u 42 :: u 43 :: u 44 :: u 45 :: u 46 :: u 47 :: u 48 :: u 49 :: u 50 :: u 51 :: u 52 :: u 53 :: u 54 :: u 55 :: u 56 :: u 57 :: u 58 :: u 59 :: u 60 :: u 61 :: u 62 :: u 63 :: u 64 :: u 65 :: u 66 :: u 67 :: u 68 :: u 69 :: u 70 :: u 71 :: u 72 :: u 73 :: u 74 :: u 75 :: u 76 :: u 77 :: u 78 :: u 79 :: u 80 :: u 81 :: u 82 :: u 83 :: u 84 :: u 85 :: u 86 :: u 87 :: u 88 :: u 89 :: u 90 :: u 91 :: u 92 :: u 93 :: u 94 :: u 95 :: u 96 :: u 97 :: u 98 :: u 99 :: u 100 :: u 101 :: u 102 :: u 103 :: u 104 :: u 105 :: u 106 :: u 107 :: u 108 :: u 109 :: u 110 :: u 111 :: u 112 :: u 113 :: u 114 :: u 115 :: u 116 :: u 117 :: u 118 :: u 119 :: u 120 :: u 121 :: u 122 :: u 123 :: u 124 :: u 125 :: u 126 :: u 127 :: u 128 :: u 129 :: []), []⟩ ∧ MoreQ l frm goal pb pi il rl w j IA ic xs k RA rc rs g st wr
theorem MoreG.mk {l frm goal : List UInt8} {pb pi il rl : Nat} {A : Option Addr} {n c : Nat} {w : World} {a : Act} {wr : World} (j : Nat) (IA : Option Addr) (ic : Nat) (xs : List Ins) (k : Nat) (RA : Option Addr) (rc : Nat) (rs : List (Int × List UInt8)) (g : Nat) (st : RS) (h : a = ⟨List.toArray (.slice A n c :: a.tmps.getD 1 undef :: .pointer (some ⟨w.heap.size, 0, none⟩) :: .nilIface :: .pointer (some ⟨g, 0, none⟩) :: .int .i64 il :: .int .i64 rl :: a.tmps.getD 7 undef :: a.tmps.getD 8 undef :: a.tmps.getD 9 undef :: a.tmps.getD 10 undef :: a.tmps.getD 11 undef :: a.tmps.getD 12 undef :: a.tmps.getD 13 undef :: a.tmps.getD 14 undef :: a.tmps.getD 15 undef :: a.tmps.getD 16 undef :: a.tmps.getD 17 undef :: a.tmps.getD 18 undef :: a.tmps.getD 19 undef :: a.tmps.getD 20 undef :: a.tmps.getD 21 undef :: a.tmps.getD 22 undef :: a.tmps.getD 23 undef :: a.tmps.getD 24 undef :: a.tmps.getD 25 undef :: a.tmps.getD 26 undef :: a.tmps.getD 27 undef :: a.tmps.getD 28 undef :: a.tmps.getD 29 undef :: a.tmps.getD 30 undef :: a.tmps.getD 31 undef :: a.tmps.getD 32 undef :: a.tmps.getD 33 undef :: a.tmps.getD 34 undef :: a.tmps.getD 35 undef :: a.tmps.getD 36 undef :: a.tmps.getD 37 undef :: a.tmps.getD 38 undef :: a.tmps.getD 39 undef :: a.tmps.getD 40 undef :: a.tmps.getD 41 undef :: a.tmps.getD 42 undef :: a.tmps.getD 43 undef :: a.tmps.getD 44 undef :: a.tmps.getD 45 undef :: a.tmps.getD 46 undef :: a.tmps.getD 47 undef :: a.tmps.getD 48 undef :: a.tmps.getD 49 undef :: a.tmps.getD 50 undef :: a.tmps.getD 51 undef :: a.tmps.getD 52 undef :: a.tmps.getD 53 undef :: a.tmps.getD 54 undef :: a.tmps.getD 55 undef :: a.tmps.getD 56 undef :: a.tmps.getD 57 undef :: a.tmps.getD 58 undef :: a.tmps.getD 59 undef :: a.tmps.getD 60 undef :: a.tmps.getD 61 undef :: a.tmps.getD 62 undef :: a.tmps.getD 63 undef :: a.tmps.getD 64 undef :: a.tmps.getD 65 undef :: a.tmps.getD 66 undef :: a.tmps.getD 67 undef :: a.tmps.getD 68 undef :: a.tmps.getD 69 undef :: a.tmps.getD 70 undef :: a.tmps.getD 71 undef :: a.tmps.getD 72 undef :: a.tmps.getD 73 undef :: a.tmps.getD 74 undef :: a.tmps.getD 75 undef :: a.tmps.getD 76 undef :: a.tmps.getD 77 undef :: a.tmps.getD 78 undef :: a.tmps.getD 79 undef :: a.tmps.getD 80 undef :: a.tmps.getD 81 undef :: a.tmps.getD 82 undef :: a.tmps.getD 83 undef :: a.tmps.getD 84 undef :: a.tmps.getD 85 undef :: a.tmps.getD 86 undef :: a.tmps.getD 87 undef :: a.tmps.getD 88 undef :: a.tmps.getD 89 undef :: a.tmps.getD 90 undef :: a.tmps.getD 91 undef :: a.tmps.getD 92 undef :: a.tmps.getD 93 undef :: a.tmps.getD 94 undef :: a.tmps.getD 95 undef :: a.tmps.getD 96 undef :: a.tmps.getD 97 undef :: a.tmps.getD 98 undef :: a.tmps.getD 99 undef :: a.tmps.getD 100 undef :: a.tmps.getD 101 undef :: a.tmps.getD 102 undef :: a.tmps.getD 103 undef :: a.tmps.getD 104 undef :: a.tmps.getD 105 undef :: a.tmps.getD 106 undef :: a.tmps.getD 107 undef :: a.tmps.getD 108 undef :: a.tmps.getD 109 undef :: a.tmps.getD 110 undef :: a.tmps.getD 111 undef :: a.tmps.getD 112 undef :: a.tmps.getD 113 undef :: a.tmps.getD 114 undef :: a.tmps.getD 115 undef :: a.tmps.getD 116 undef :: a.tmps.getD 117 undef :: a.tmps.getD 118 undef :: a.tmps.getD 119 undef :: a.tmps.getD 120 undef :: a.tmps.getD 121 undef :: a.tmps.getD 122 undef :: a.tmps.getD 123 undef :: a.tmps.getD 124 undef :: a.tmps.getD 125 undef :: a.tmps.getD 126 undef :: a.tmps.getD 127 undef :: a.tmps.getD 128 undef :: a.tmps.getD 129 undef :: []), []⟩) (hM : MoreQ l frm goal pb pi il rl w j IA ic xs k RA rc rs g st wr) : MoreG l frm goal pb pi il rl A n c w a wr :=
  ⟨fun i => a.tmps.getD i undef, j, IA, ic, xs, k, RA, rc, rs, g, st, h, hM⟩
def moreMu2 (il rl z : Nat) (_ : Act) (wr : World) : Nat := (il - (match wr.cell? ⟨z, 65, none⟩ with | some (.slice _ m _) => m | _ => 0)) + (rl - (match wr.cell? ⟨z, 66, none⟩ with | some (.slice _ m _) => m | _ => 0))
theorem record_small (s : RS) : (s.record.1.path.size ≤ 1000 ∧ s.record.1.dst.size ≤ 1000) ∧ (0 ≤ s.record.1.ref ∧ s.record.1.ref ≤ 65535) := by
  have e1 : ∀ (r : RS) (k : Nat), (⟨(r.get k).toArray⟩ : ByteArray).size = k := fun r k => by show (r.get k).toArray.size = k; rw [List.size_toArray, RS.get_len]
  have e2 : ∀ r : RS, r.num 1 < 256 := fun r => by have := RS.num_lt r 1; simpa using this
  have e3 : ∀ r : RS, r.num 2 < 65536 := fun r => by have := RS.num_lt r 2; simpa using this
  unfold RS.record
  simp only [e1]
  refine ⟨⟨?_, ?_⟩, Int.natCast_nonneg _, ?_⟩
  · exact Nat.le_trans (Nat.le_of_lt (e2 _)) (by decide)
  · exact Nat.le_trans (Nat.le_of_lt (e2 _)) (by decide)
  · have := e3 (((⟨(s.go 1).get (s.num 1), false⟩ : RS).go 1).go 2)
    omega
theorem head_of {l : List UInt8} {frm goal : List UInt8} {pb pi il rl : Nat} {s7 : RS} (h : HeadR l frm goal pb pi il rl s7) : HeadS l frm goal pb pi il rl ∧ ∀ s0, EncOf s0 l → s7 = ⟨s0.refs.flatMap refL ++ (s0.ins.flatMap recL ++ tlL s0), false⟩ := by
  have n4 : ∀ r : RS, r.num 4 < 4294967296 := fun r => by have := RS.num_lt r 4; simpa using this
  have n2 : ∀ r : RS, r.num 2 < 65536 := fun r => by have := RS.num_lt r 2; simpa using this
  have key : ∀ s0, EncOf s0 l → HeadR l s0.frm s0.goal s0.pb.toNat s0.pi.toNat s0.il s0.rl ⟨s0.refs.flatMap refL ++ (s0.ins.flatMap recL ++ tlL s0), false⟩ := fun s0 h0 => by
    have := head_app (s := s0) (T := s0.refs.flatMap refL ++ (s0.ins.flatMap recL ++ tlL s0)) h0.wf.fl h0.wf.gl h0.ok.2.1.1 h0.ok.2.1.2 (by have := h0.ok.1; omega) (by have := h0.rl; omega)
    have e : headL s0 ++ (s0.refs.flatMap refL ++ (s0.ins.flatMap recL ++ tlL s0)) = l := by
      rw [← h0.enc]; unfold encL bodyE tlL bodyE; simp only [List.append_assoc]
    rwa [e] at this
  refine ⟨⟨?_, ?_, ?_, ?_, ?_, ?_, fun s0 h0 => ?_⟩, fun s0 h0 => ?_⟩
  · rw [← h.frm, RS.get_len]
  · rw [← h.goal, RS.get_len]
  · rw [← h.pb]; exact n4 _
  · rw [← h.pi]; exact n4 _
  · rw [← h.n]; exact n2 _
  · rw [← h.m]; exact n2 _
  · have k := key s0 h0
    have hb := h0.ok.2.1.1
    have hi := h0.ok.2.1.2
    unfold okPart at hb hi
    simp only [Bool.and_eq_true, decide_eq_true_eq] at hb hi
    have e1 : pb = s0.pb.toNat := h.pb.symm.trans k.pb
    have e2 : pi = s0.pi.toNat := h.pi.symm.trans k.pi
    exact ⟨h.frm.symm.trans k.frm, h.goal.symm.trans k.goal, by omega, by omega, h.n.symm.trans k.n, h.m.symm.trans k.m⟩
  · exact h.s7.symm.trans (key s0 h0).s7
end Go.Proofs.YtgeiegjpnnbloaaDoor
