/- pack.script at bytes that Encode wrote of a script that only syncs. -/
import Derived.Test.YtgeiegjpnnbloaaDoorInsR
namespace Go.Proofs.YtgeiegjpnnbloaaDoor
open Go.ChangeShapes Go.WideShapes Go.ChangeAt Go.ChangeMaps Go.RowKit Go.Deep

section
variable {P : Program} {ops : Array Oper} {Q : Exit → Act → World → Prop} {S : World → Prop}
theorem wp_region_tailS {id : Nat} {a : Act} {w : World} {l : List Oper} (S : World → Prop) (pi : List (Nat × Bool)) (n : Nat) (hm : P.follows .mixedOrders = true)
    (hB : (Region.noSelect l.toArray && ordG l.toArray n pi (Array.replicate l.toArray.size false) && Region.sinkB .any l.toArray n && Region.chainB .any l.toArray n && decide (n < l.toArray.size) && decide (pi.length + 1 = l.toArray.size)) = true)
    (hS : S w.drew) (h : wpOrd P l.toArray (TailQ P l.toArray n (NoPanic Q)) S pi a w.drew) : (Code.region id l.toArray true).wp P Q a w := by
  simp only [Bool.and_eq_true, decide_eq_true_eq] at hB
  obtain ⟨⟨⟨⟨⟨h1, h2⟩, h3⟩, h4⟩, h5⟩, h6⟩ := hB
  refine wp_region_noPanic (wp_region_any hm (wpAny_of_G (n := n) (Q := NoPanic Q) (S := S) _ _ _ _ ?_))
  have inv : HeadInv .any l.toArray n (Array.replicate l.toArray.size false) := ⟨by simp, fun j oj _ hl => (by rw [getD_replicate_false] at hl; cases hl), fun t ht ht' => by simp at ht'; simp [ht']⟩
  have := wpAnyG_of_ord (P := P) (Q := NoPanic Q) (S := S) h1 (fun _ _ _ _ _ h => h) h3 h4 h5 pi _ a _ inv h2 hS h
  rw [h6] at this
  exact this
theorem ord_qS {l : List Oper} {i : Nat} {o : Oper} {r : List (Nat × Bool)} {a : Act} {w : World} (ho : l[i]? = some o) (hw : Region.wanted o (yielded l.toArray a.tmps) = true)
    (h : ∃ v, (∀ w', S w' → (execOp a.eval o).run P w' = .ok (.value v) w') ∧ wpOrd P l.toArray Q S r (a.put o.dst v) w) : wpOrd P l.toArray Q S ((i, true) :: r) a w :=
  let ⟨_, hy, hn⟩ := h
  ord_q (by simpa using ho) hw hy hn
end
/-- A copy of bytes into a block that is known. -/
theorem wpList_copy_blk {ops : Array Oper} {rest : List Oper} {o : Oper} {a : Act} {Q : Exit → Act → World → Prop} {w : World} (hgd : o.guard = none) (d s : Operand) (ho : o.op = .call { callee := .builtin .copy, args := #[d, s], argTypes := #[22, 22] })
    {g k m c c2 B : Nat} {t : TypeId} {cur : Array Value} {A : Option Addr} {L : List Value} (hB : Blk w g t cur) (hd : a.eval d = .slice (some ⟨g, k, none⟩) m c) (hs : a.eval s = .slice A m c2) (hS : Sl w B 1 A m L) (hm : 0 < m) (hkm : k + m ≤ cur.size) (h1 : ∀ v ∈ L, v.oneCell' = true)
    (h : ∀ w', Blk w' g t (cur.toList.take k ++ L ++ cur.toList.drop (k + m)).toArray → w.grownBy w' (some g) → w'.heap.size = w.heap.size → wpList Tryd.prog ops Q rest (a.put o.dst (.int .i64 m)) w') : wpList Tryd.prog ops Q (o :: rest) a w := by
  refine wpList_plain hgd fun K hK => ?_
  obtain ⟨b, q, rfl, _, hrow⟩ := hS.2 hm
  have hlen : L.length = m := by have := hS.1; omega
  obtain ⟨ti, z, h2, h3, h4, h5, h6⟩ := Tryd.u8T.hi
  have hl := run_loadCells_list (P := Tryd.prog) w ⟨b, q, none⟩ L (fun j v hj => by rw [Addr.add_lit]; exact hrow j v hj)
  have hst := run_storeCells_at Tryd.prog g k t L 0 cur w hB (by omega) h1
  simp only [Nat.add_zero, hlen] at hst
  have hrun : (Builtin.copy_ #[22, 22] o.type #[.slice (some ⟨g, k, none⟩) m c, .slice (some ⟨b, q, none⟩) m c2]).run Tryd.prog w = .ok (goInt m) (w.setRow g (cur.toList.take k ++ L ++ cur.toList.drop (k + m)).toArray) := by
    rw [hlen] at hl
    simp [Builtin.copy_, run_underlying Tryd.underlying22, Builtin.lenOf, Builtin.firstCells, sizeOf, typeInfo, h2, h4, hl, hst]
  unfold Oper.wp execOp
  simp only [ho, resolve, invoke, builtin, Sem.run_bind, Sem.run_pure, Result.andThen_ok, List.map_toArray, List.map_cons, List.map_nil, hd, hs, hrun]
  exact hK _ _ (h _ (setRow_heap w g cur _ t _ hB) ⟨rfl, rfl, rfl, by simp, fun q _ hq => setRow_other w g q _ (fun e => hq (by simp [e]))⟩ (by simp))
theorem deN_leB (x k : Nat) : deN (leB (x : Int) k) = x % 256 ^ k := by
  induction k with
  | zero => simp [leB, deN, Nat.mod_one]
  | succ k ih =>
    rw [leB_succ, deN_snoc, ih, leB_len]
    have h1 : (byteB (x : Int) k).toNat = x / 256 ^ k % 256 := by
      unfold byteB
      rw [UInt8.toNat_ofNat']
      have : ((x : Int) / 2 ^ (8 * k) % 256).toNat = x / 256 ^ k % 256 := by
        have h3 : (256 : Nat) ^ k = 2 ^ (8 * k) := by rw [Nat.pow_mul]
        have h2 : ((2 : Int) ^ (8 * k)) = ((256 ^ k : Nat) : Int) := by
          rw [h3]
          push_cast
          rfl
        rw [h2, ← Int.natCast_ediv, show (256 : Int) = ((256 : Nat) : Int) from rfl, ← Int.natCast_emod, Int.toNat_natCast]
      rw [this]
      omega
    rw [h1, Nat.pow_succ, Nat.mod_mul, Nat.mul_comm (x / 256 ^ k % 256)]
def zero32 : List UInt8 := List.replicate 32 0
def zeroScr : Scr := ⟨zero32, zero32, 0, 0, [], [], none, 0, 0, none, 0, 0⟩
theorem zero_cells : Tryd.zeroCells30 = zeroScr.C := by
  unfold Scr.C Scr.L zeroScr
  simp only [F_zero]
  kernel_rfl
end Go.Proofs.YtgeiegjpnnbloaaDoor
