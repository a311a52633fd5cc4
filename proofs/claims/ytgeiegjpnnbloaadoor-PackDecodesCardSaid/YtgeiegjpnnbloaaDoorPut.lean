/- pack.put, pack.text: numbers and texts in bytes. -/
import Derived.Test.YtgeiegjpnnbloaaDoorCrc
import Derived.ChangeMaps5
import Derived.Lib.AppendStr
import Derived.Deep.DeepCutAuto
namespace Go.Proofs.YtgeiegjpnnbloaaDoor
open Go.ChangeShapes Go.WideShapes Go.ChangeAt Go.ChangeMaps Go.RowKit Go.Deep

theorem Tryd.u8T : ElemT Tryd.prog 22 5 1 1 := ElemT.mk' (z := .int .u8 0) Tryd.underlying22 (by kernel_rfl) rfl (by omega)
def byteB (x : Int) (j : Nat) : UInt8 := UInt8.ofNat (x / 2 ^ (8 * j) % 256).toNat
def leB (x : Int) (k : Nat) : List UInt8 := (List.range k).map (byteB x)
theorem leB_succ (x : Int) (k : Nat) : leB x (k + 1) = leB x k ++ [byteB x k] := by unfold leB; rw [List.range_succ, List.map_append]; rfl
theorem leB_len (x : Int) (k : Nat) : (leB x k).length = k := by simp [leB]
theorem byteB_cell (x : Int) (j : Nat) : (#[.int .u8 (x / 2 ^ (8 * j) % 256)] : Array Value).toList = [byteB x j].flatMap u8L := by
  unfold byteB u8L
  have h : ((UInt8.ofNat (x / 2 ^ (8 * j) % 256).toNat).toNat : Int) = x / 2 ^ (8 * j) % 256 := by
    rw [UInt8.toNat_ofNat']
    omega
  simp only [List.flatMap_cons, List.flatMap_nil, List.append_nil, h]
theorem own_blkP {w : World} {base e sz n c : Nat} {A : Option Addr} {L : List Value} (h : w.ownsRow base e sz (.slice A n c) n L) : ∀ g, blkOf A = some g → base ≤ g := fun g hg => by
  rcases h.2 with ⟨h', _⟩ | ⟨g', cap, cur, hv, hb, _⟩
  · injection h' with h1
    subst h1
    cases hg
  · injection hv with hA
    subst hA
    have e : some g' = some g := hg
    injection e with e
    omega
/-- A row of bytes of one's own, grown. -/
def GrewRow (base : Nat) (A : Option Addr) (m : Nat) (M : List UInt8) (w : World) (e : Ending) (w' : World) : Prop :=
  ∃ A' c', e = .returned (.slice A' m c') ∧ w'.ownsRow base 5 1 (.slice A' m c') m (M.flatMap u8L) ∧ w.grownBy w' (blkOf A) ∧ (∀ g, blkOf A' = some g → blkOf A = some g ∨ w.heap.size ≤ g)
def PutAt (base : Nat) (A : Option Addr) (m : Nat) (M : List UInt8) (w : World) (v : Value) (w' : World) : Prop :=
  ∃ A' c', v = .slice A' m c' ∧ w'.ownsRow base 5 1 (.slice A' m c') m (M.flatMap u8L) ∧ w.grownBy w' (blkOf A) ∧ (∀ g, blkOf A' = some g → blkOf A = some g ∨ w.heap.size ≤ g)
theorem grew_own {a b c : World} {row r' : Option Nat} (h : a.grownBy b row) (k : b.grownBy c r') (hr : ∀ g, r' = some g → row = some g ∨ a.heap.size ≤ g) : a.grownBy c row :=
  ⟨k.os.trans h.os, k.tape.trans h.tape, k.output.trans h.output, Nat.le_trans h.size k.size, fun i hi hne => (k.block i (Nat.lt_of_lt_of_le hi h.size) (fun e => (hr i e.symm).elim (fun e2 => hne e2.symm) (fun e2 => by omega))).trans (h.block i hi hne)⟩
theorem blk_chain {A B C : Option Addr} {s t : Nat} (h : ∀ g, blkOf B = some g → blkOf A = some g ∨ s ≤ g) (k : ∀ g, blkOf C = some g → blkOf B = some g ∨ t ≤ g) (hst : s ≤ t) : ∀ g, blkOf C = some g → blkOf A = some g ∨ s ≤ g := fun g hg => by
  rcases k g hg with e | e
  · exact h g e
  · exact .inr (Nat.le_trans hst e)
set_option maxRecDepth 100000 in
set_option maxHeartbeats 4000000 in
theorem put_any (x : Int) (k : Nat) (hk : k ≤ 4) (base : Nat) (L : List UInt8) (A : Option Addr) (n c : Nat) (w : World) (ho : w.ownsRow base 5 1 (.slice A n c) n (L.flatMap u8L)) (hn : n + k ≤ 1000000000) (hbase : base ≤ w.heap.size) :
    Calls Tryd.prog 19 #[.slice A n c, .int .i64 x, .int .i64 k] w (GrewRow base A (n + k) (L ++ leB x k) w) := by
  have HO := Lib.hid ho
  clear ho
  go_enter Tryd.func19, Tryd.ntmps19
  go_wp2
  go_loopw [0, 9] (fun b i wr => ∃ j : Nat, j ≤ k ∧ i = .int .i64 j ∧ PutAt base A (n + j) (L ++ leB x j) w b wr) (fun _ i _ => k - (intOf i).toNat)
  case atStart => exact ⟨0, Nat.zero_le _, rfl, A, c, rfl, by rw [show leB x 0 = [] from rfl, List.append_nil]; exact HO.out, World.grownBy.refl _ _, fun g h => .inl h⟩
  case round =>
  obtain ⟨j, hj, rfl, A1, c1, rfl, ho1, hb1, ha1⟩ := hrel
  have HO1 := Lib.hid ho1; have HB1 := Lib.hid hb1; have HA1 := Lib.hid ha1
  by_cases hlt : j < k
  · have hji : (j : Int) < k := by omega
    have hsz := hb1.size
    clear ho1 hb1 ha1
    have hz : base ≤ wr.heap.size := Nat.le_trans hbase hsz
    have hcell := byteB_cell x j
    go_wp2_with (at_builtin; refine wpList_append_one rfl _ _ _ rfl Tryd.u8T rfl HO1.out #[.int .u8 (x / 2 ^ (8 * j) % 256)] rfl (by first | rfl | simp) rfl (by simp [Value.oneCell']) (by unfold maxLen; omega) (by omega) hz ?_; intro g5 c5 w5 ho5 hg5 hat5)
    go_roundw
    case rel => exact ⟨j + 1, by omega, by go_num, some ⟨g5, 0, none⟩, c5, rfl, by rw [leB_succ, ← List.append_assoc, List.flatMap_append]; rw [hcell] at ho5; exact ho5, grew_own HB1.out hg5 HA1.out, fun g e => by
      rcases hat5 with h | h
      · have : blkOf A1 = some g := by rw [h]; exact e
        exact HA1.out g this
      · have e' : some g5 = some g := e
        injection e' with e'
        exact .inr (by omega)⟩
    case measure => simp [intOf]; omega
  · obtain rfl : j = k := by omega
    have hji : ¬ (j : Int) < j := by omega
    clear ho1 hb1 ha1
    go_wp2
    go_ret
    exact ⟨A1, c1, rfl, HO1.out, HB1.out, HA1.out⟩
theorem map_u8 : ∀ l : List UInt8, (l.map fun b => Value.int .u8 (b.toNat : Nat)) = l.flatMap u8L
  | [] => rfl
  | x :: l => by rw [List.map_cons, List.flatMap_cons, map_u8 l]; rfl
theorem str_u8 (s : ByteArray) : Lib.strCells s = s.data.toList.flatMap u8L := map_u8 _
/-- Where an appended text lies. -/
theorem app_third {base n c m c3 : Nat} {A A3 : Option Addr} {L : List Value} {w w' : World} {ty : TypeId} {p : ByteArray} {i : TypeInfo} (hi : Tryd.prog.info? 5 = some i) (hz : i.zero = some (.int .u8 0)) (hsize : i.size = 1) (hby : i.bytes = 1)
    (hown : w.ownsRow base 5 1 (.slice A n c) n L) (hb : n + p.size ≤ 140737488355328)
    (hrun : (Builtin.append_ #[22, 9] ty #[.slice A n c, .string p]).run Tryd.prog w = .ok (.slice A3 m c3) w') : ∀ g, blkOf A3 = some g → blkOf A = some g ∨ w.heap.size ≤ g := by
  have hxl : L.length = n := by simpa using hown.1
  rcases hown.2 with ⟨hv, h0⟩ | ⟨g, cap, cur, hv, hbg, hg, hnc, hcm, hcs, htake⟩
  · have hnil : w.ownsRow w.heap.size 5 1 (.slice A n c) n L := ⟨hown.1, .inl ⟨hv, h0⟩⟩
    obtain ⟨v2, w2, hr, ho2, _⟩ := Lib.run_append_own_string (P := Tryd.prog) (w := w) w.heap.size 22 9 ty 5 i Tryd.underlying22 Tryd.underlying9 hi hz hsize hby (.slice A n c) n L hnil p (by unfold maxLen; omega) hb (Nat.le_refl _)
    rw [hr] at hrun
    injection hrun with e1 e2
    subst e1
    intro g hg
    refine .inr ?_
    rcases ho2.2 with ⟨hv, _⟩ | ⟨g', _, _, hv, hb, _⟩
    · injection hv with h1; subst h1; cases hg
    · injection hv with h1
      subst h1
      have e : some g' = some g := hg
      injection e with e
      omega
  · injection hv with hA _ hC
    subst hA hC
    by_cases hroom : n + p.size ≤ c
    · have hcs' : cur.size = c := by simpa using hcs
      have hr := Lib.run_append_room_string (P := Tryd.prog) (w := w) 22 9 ty 5 i Tryd.underlying22 Tryd.underlying9 hi hsize g n c cur hg p hroom (by omega)
      rw [hr] at hrun
      injection hrun with e1 e2
      injection e1 with e1
      subst e1
      exact fun g' h => .inl h
    · have holds : ∀ j u, L[j]? = some u → w.cell? ((⟨g, 0, none⟩ : Addr).add j) = some u := hown.cells (g := g) rfl
      have hr := Lib.run_append_grow_string (P := Tryd.prog) (w := w) 22 9 ty 5 i (.int .u8 0) Tryd.underlying22 Tryd.underlying9 hi hz ⟨g, 0, none⟩ n c L (by rw [hsize]; simpa using hxl) holds p (by omega) (by omega) (by rw [hby]; exact growslice_fits (by omega) (by omega))
      rw [hr] at hrun
      injection hrun with e1 e2
      injection e1 with e1
      subst e1
      intro g' h
      have e : some w.heap.size = some g' := h
      injection e with e
      exact .inr (by omega)
section
variable {ops : Array Oper} {rest : List Oper} {o : Oper} {a : Act} {Q : Exit → Act → World → Prop} {w : World}
theorem wpList_append_txt (hgd : o.guard = none) (s x : Operand) (ho : o.op = .call { callee := .builtin .append, args := #[s, x], argTypes := #[22, 9] })
    {base n c : Nat} {A : Option Addr} {L : List Value} (hs : a.eval s = .slice A n c) (hown : w.ownsRow base 5 1 (.slice A n c) n L) {p : ByteArray} (hx : a.eval x = .string p)
    (hb : n + p.size ≤ 140737488355328) (hbase : base ≤ w.heap.size)
    (h : ∀ A3 c3 w', w'.ownsRow base 5 1 (.slice A3 (n + p.size) c3) (n + p.size) (L ++ p.data.toList.flatMap u8L) → w.grownBy w' (blkOf A) → (∀ g, blkOf A3 = some g → blkOf A = some g ∨ w.heap.size ≤ g) → wpList Tryd.prog ops Q rest (a.put o.dst (.slice A3 (n + p.size) c3)) w') :
    wpList Tryd.prog ops Q (o :: rest) a w := by
  obtain ⟨i, z, h2, h3, h4, h5, h6⟩ := Tryd.u8T.hi
  have hz : i.zero = some (.int .u8 0) := by
    have : (Tryd.prog.info? 5).map (fun i => i.zero) = some (some (.int .u8 0)) := by kernel_rfl
    rw [h2] at this
    injection this
  refine wpList_plain hgd fun K hK => ?_
  obtain ⟨v', w', hrun, ho2, hg2, _⟩ := Lib.run_append_own_string (P := Tryd.prog) (w := w) base 22 9 o.type 5 i Tryd.underlying22 Tryd.underlying9 h2 hz h4 h5 (.slice A n c) n L hown p (by unfold maxLen; omega) hb hbase
  obtain ⟨A3, c3, rfl⟩ : ∃ A3 c3, v' = .slice A3 (n + p.size) c3 := by
    rcases ho2.2 with ⟨hv, h0⟩ | ⟨g, cap, cur, hv, _⟩
    · exact ⟨none, 0, by rw [hv, h0]⟩
    · exact ⟨_, _, hv⟩
  have h3 := app_third h2 hz h4 h5 hown hb hrun
  unfold Oper.wp execOp
  simp only [ho, resolve, invoke, builtin, Sem.run_bind, Sem.run_pure, Result.andThen_ok, List.map_toArray, List.map_cons, List.map_nil, hs, hx, hrun]
  rw [str_u8] at ho2
  have hbk : (Value.slice A n c).ownBlock = blkOf A := by cases A <;> rfl
  rw [hbk] at hg2
  exact hK _ _ (h A3 c3 w' ho2 hg2 h3)
end
set_option maxRecDepth 100000 in
set_option maxHeartbeats 4000000 in
/-- A text of at most 10^6 letters. -/
theorem text_any (s : ByteArray) (hs : s.size ≤ 1000000) (base : Nat) (L : List UInt8) (A : Option Addr) (n c : Nat) (w : World) (ho : w.ownsRow base 5 1 (.slice A n c) n (L.flatMap u8L)) (hn : n ≤ 100000000) (hbase : base ≤ w.heap.size) :
    Calls Tryd.prog 36 #[.slice A n c, .string s] w (GrewRow base A (n + 1 + s.size) (L ++ leB s.size 1 ++ s.data.toList) w) := by
  have HP := Lib.hid (put_any s.size 1 (by omega) base L A n c w ho (by omega) hbase)
  clear ho
  go_enter Tryd.func36, Tryd.ntmps36
  go_wp2_with (first | (go_at_call 19; refine HP.out.mono ?_; rintro e w1 ⟨A1, c1, rfl, ho1, hb1, ha1⟩; have hz := Nat.le_trans hbase hb1.size) | (at_builtin; refine wpList_append_txt rfl _ _ rfl rfl ho1 rfl (by omega) hz ?_; intro A3 c3 w3 ho3 hg3 ha3))
  go_ret
  exact ⟨A3, c3, rfl, by rw [List.flatMap_append]; exact ho3, grew_own hb1 hg3 ha1, blk_chain ha1 ha3 hb1.size⟩
end Go.Proofs.YtgeiegjpnnbloaaDoor
