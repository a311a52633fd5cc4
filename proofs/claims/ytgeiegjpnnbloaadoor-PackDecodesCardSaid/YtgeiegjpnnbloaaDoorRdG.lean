/- pack.reader in general: it may come short. -/
import Derived.Test.YtgeiegjpnnbloaaDoorInsR
import Derived.Test.YtgeiegjpnnbloaaDoorScript
namespace Go.Proofs.YtgeiegjpnnbloaaDoor
open Go.ChangeShapes Go.WideShapes Go.ChangeAt Go.ChangeMaps Go.RowKit Go.Deep

/-- What a reader has before it, and whether it came short. -/
structure RS where
  l : List UInt8
  sh : Bool
def RS.get (s : RS) (k : Nat) : List UInt8 := if k ≤ s.l.length then s.l.take k else List.replicate k 0
def RS.go (s : RS) (k : Nat) : RS := if k ≤ s.l.length then ⟨s.l.drop k, s.sh⟩ else ⟨s.l, true⟩
def RS.num (s : RS) (k : Nat) : Nat := deN (s.get k)
theorem RS.get_len (s : RS) (k : Nat) : (s.get k).length = k := by
  unfold RS.get
  split
  · rename_i h; rw [List.length_take, Nat.min_eq_left h]
  · simp
theorem RS.num_lt (s : RS) (k : Nat) : s.num k < 256 ^ k := by have := deN_lt (s.get k); rw [RS.get_len] at this; exact this
def RdG (w : World) (g B : Nat) (s : RS) : Prop := ∃ A c, Blk w g 64 #[.slice A s.l.length c, .bool s.sh] ∧ Sl w B 1 A s.l.length (s.l.flatMap u8L) ∧ s.l.length ≤ c ∧ c ≤ maxLen ∧ B ≤ g
theorem RdG.lt {w : World} {g B : Nat} {s : RS} (h : RdG w g B s) : g < w.heap.size := by obtain ⟨A, c, hB, _⟩ := h; exact hB.lt
theorem RdG.Bg {w : World} {g B : Nat} {s : RS} (h : RdG w g B s) : B ≤ g := by obtain ⟨_, _, _, _, _, _, h⟩ := h; exact h
theorem RdG.other {w w' : World} {g B q : Nat} {s : RS} (h : RdG w g B s) (hg : w.grownBy w' (some q)) (hq : g ≠ q) (hB : B ≤ q) : RdG w' g B s := by
  obtain ⟨A, c, h1, h2, h3, h4, h5⟩ := h
  exact ⟨A, c, h1.keep (hg.block g h1.lt (fun e => hq (by injection e))), h2.below (below_grown (B := B) hg (by have := h1.lt; omega) (fun r e => by injection e with e; omega)) (Nat.le_refl _), h3, h4, h5⟩
theorem RdG.grow0 {w w' : World} {g B : Nat} {s : RS} (h : RdG w g B s) (hg : w.grownBy w' none) : RdG w' g B s := by
  obtain ⟨A, c, h1, h2, h3, h4, h5⟩ := h
  exact ⟨A, c, h1.keep (hg.block g h1.lt (fun e => by cases e)), h2.below (below_grown (B := B) hg (by have := h1.lt; omega) (fun r e => by cases e)) (Nat.le_refl _), h3, h4, h5⟩
def NextRes (g B : Nat) (s : RS) (k : Nat) (w : World) (e : Ending) (w' : World) : Prop :=
  ∃ X, e = .returned (.slice X k k) ∧ Sl w' w'.heap.size 1 X k ((s.get k).flatMap u8L) ∧ RdG w' g B (s.go k) ∧ w.grownBy w' (some g)
structure s2eq (n k : Nat) (s : RS) : Prop where
  e : s.l.length = n
  lt : n < k
theorem s2eq.get {n k : Nat} {s : RS} (h : s2eq n k s) : s.get k = List.replicate k 0 := by unfold RS.get; rw [if_neg (by have := h.e; have := h.lt; omega)]
theorem s2eq.go {n k : Nat} {s : RS} (h : s2eq n k s) : s.go k = ⟨s.l, true⟩ := by unfold RS.go; rw [if_neg (by have := h.e; have := h.lt; omega)]
structure s2le (n k : Nat) (s : RS) : Prop where
  e : s.l.length = n
  le : k ≤ n
theorem s2le.get {n k : Nat} {s : RS} (h : s2le n k s) : s.get k = s.l.take k := by unfold RS.get; rw [if_pos (by have := h.e; have := h.le; omega)]
theorem s2le.go {n k : Nat} {s : RS} (h : s2le n k s) : s.go k = ⟨s.l.drop k, s.sh⟩ := by unfold RS.go; rw [if_pos (by have := h.e; have := h.le; omega)]
theorem made_u8 (k : Nat) : (madeCells (Value.int .u8 0).cells k).toList = (List.replicate k (0 : UInt8)).flatMap u8L := by
  rw [← map_u8]
  simp [madeCells, Value.cells]
  apply List.ext_getElem
  · simp
  · intro i h1 h2
    simp [Nat.mod_one]
section
variable {ops : Array Oper} {rest : List Oper} {o : Oper} {a : Act} {Q : Exit → Act → World → Prop} {w : World}
theorem wpList_make_u8 (hgd : o.guard = none) (x y : Operand) (ho : o.op = .makeSlice 22 x y) {n : Nat} (hx : a.eval x = .int .i64 n) (hy : a.eval y = .int .i64 n) (hn : n ≤ 65535)
    (h : ∀ g w', w'.ownsRow w.heap.size 5 1 (.slice (some ⟨g, 0, none⟩) n n) n ((List.replicate n (0 : UInt8)).flatMap u8L) → w.grownBy w' none → wpList Tryd.prog ops Q rest (a.put o.dst (.slice (some ⟨g, 0, none⟩) n n)) w') : wpList Tryd.prog ops Q (o :: rest) a w := by
  obtain ⟨i, h2, h3, h4, h5⟩ := info_parts (P := Tryd.prog) (e := 5) (z := .int .u8 0) (size := 1) (bytes := 1) (by kernel_rfl)
  obtain ⟨w', hrun, h7, h8⟩ := run_make_full (P := Tryd.prog) w w.heap.size 22 5 i _ 1 Tryd.underlying22 h2 h3 h4 .i64 .i64 n (by rw [h5]; omega) (by unfold maxLen; omega) (Nat.le_refl _)
  rw [Nat.mul_one, made_u8] at h7
  refine wpList_plain hgd fun K hK => ?_
  unfold Oper.wp execOp
  simp only [ho, hx, hy, Sem.run_bind, Sem.run_pure, Result.andThen_ok, hrun]
  exact hK _ _ (h _ w' h7 h8)
end
set_option maxRecDepth 100000 in
set_option maxHeartbeats 4000000 in
theorem next_any (g B : Nat) (s : RS) (k : Nat) (w : World) (h : RdG w g B s) (hk6 : k ≤ 65535) :
    Calls Tryd.prog 23 #[.pointer (some ⟨g, 0, none⟩), .int .i64 k] w (NextRes g B s k w) := by
  obtain ⟨l, sh⟩ := s
  obtain ⟨A, c, hB, hS, hnc, hcm, hBg⟩ := h
  simp only at hB hS hnc
  obtain ⟨n, hn⟩ : ∃ n, l.length = n := ⟨_, rfl⟩
  rw [hn] at hB hS hnc
  have b0 := hB.cell 0; have b1 := hB.cell 1
  have hl := hB.lt
  have HS := Lib.hid hS
  unfold maxLen at hcm
  have hk0 : (0 : Int) ≤ k := by omega
  have hf0 := hB.unfr 0; have hf1 := hB.unfr 1
  have HNl := Lib.hid hn
  clear hS hn
  by_cases hlt : n < k
  · have hki : (n : Int) < k := by omega
    go_enter Tryd.func23, Tryd.ntmps23
    go_upto_region 3 with (fail)
    obtain ⟨W, hW⟩ : ∃ W, W = w.setCell ⟨g, 1, none⟩ (.bool true) := ⟨_, rfl⟩
    have hg := grown_put w g 1 (.bool true)
    have hBW := hB.set 1 (.bool true)
    rw [← hW] at hg hBW ⊢
    have hWs : W.heap.size = w.heap.size := by rw [hW]; simp
    have HS1 := Lib.hid (HS.out.grown hg hBg hl)
    have Hg := Lib.hid hg; have HBW := Lib.hid hBW
    clear hW hB b0 b1 hf0 hf1 hg hBW
    go_wp2_with (refine wpList_make_u8 rfl (.tmp 16) (.tmp 16) rfl (n := k) rfl rfl hk6 ?_; intro X w2 ho2 hg2)
    go_ret
    have hgx : s2eq n k (⟨l, sh⟩ : RS) := ⟨HNl.out, hlt⟩
    refine ⟨some ⟨X, 0, none⟩, rfl, ?_, ?_, grown_trans Hg.out (grown_any hg2)⟩
    · rw [hgx.get]
      exact Sl.of_own ho2
    · rw [hgx.go]
      refine ⟨A, c, ?_, ?_, ?_, by unfold maxLen; omega, hBg⟩
      · show Blk w2 g _ #[.slice A l.length c, .bool true]
        rw [HNl.out]
        exact HBW.out.keep (hg2.block g (by omega) (fun e => by cases e))
      · show Sl w2 B 1 A l.length _
        rw [HNl.out]
        exact HS1.out.below (below_grown (B := B) hg2 (by omega) (fun r e => by cases e)) (Nat.le_refl _)
      · show l.length ≤ c
        rw [HNl.out]; exact hnc
  have hk : k ≤ n := by omega
  have hki : ¬ (n : Int) < k := by omega
  have hgx : s2le n k (⟨l, sh⟩ : RS) := ⟨HNl.out, hk⟩
  have hgl := hgx.get; have hgo := hgx.go
  have Hgl := Lib.hid hgl; have Hgo := Lib.hid hgo
  clear hgx hgl hgo hlt
  have fin : ∀ (A2 : Option Addr), A2 = restA A c k → NextRes g B ⟨l, sh⟩ k w (.returned (.slice A k k)) (w.setCell ⟨g, 0, none⟩ (.slice A2 (n - k) (c - k))) := by
    rintro A2 rfl
    have hg := grown_put w g 0 (.slice (restA A c k) (n - k) (c - k))
    refine ⟨A, rfl, ?_, ?_, hg⟩
    · rw [Hgl.out]
      have := (HS.out.first hk).grown hg hBg hl
      rw [Nat.mul_one, u8_take] at this
      exact this.more (by simp; omega)
    · rw [Hgo.out]
      refine ⟨restA A c k, c - k, ?_, ?_, ?_, by unfold maxLen; omega, hBg⟩
      · have := hB.set 0 (.slice (restA A c k) (n - k) (c - k))
        show Blk _ g _ #[.slice (restA A c k) (l.drop k).length (c - k), .bool sh]
        rw [List.length_drop, HNl.out]
        exact this
      · have := (HS.out.rest1 hk hnc).grown hg hBg hl
        rw [u8_drop] at this
        show Sl _ B 1 (restA A c k) (l.drop k).length _
        rw [List.length_drop, HNl.out]
        exact this
      · show (l.drop k).length ≤ c - k
        rw [List.length_drop, HNl.out]; omega
  have Fin := Lib.hid fin
  clear fin
  by_cases hc : c = k
  · obtain rfl : n = k := by omega
    obtain rfl : n = c := by omega
    go_enter Tryd.func23, Tryd.ntmps23
    go_wp2
    go_ret
    have := Fin.out A (by unfold restA; rw [if_pos rfl])
    rw [Nat.sub_self] at this
    exact this
  · have hck : k < c := by omega
    have hcki : (k : Int) < c := by omega
    go_enter Tryd.func23, Tryd.ntmps23
    go_wp2
    go_ret
    exact Fin.out (A.map fun x => x.add k) (by unfold restA; rw [if_neg hc])
end Go.Proofs.YtgeiegjpnnbloaaDoor
