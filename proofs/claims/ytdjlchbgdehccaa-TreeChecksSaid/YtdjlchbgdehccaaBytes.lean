/- tree.Bytes. -/
import Derived.Test.YtdjlchbgdehccaaTreeD
import Derived.Test.YtdjlchbgdehccaaGood
import Derived.Test.YtdjlchbgdehccaaKit
import Derived.Test.YtdjlchbgdehccaaCopy0
import Derived.Test.YtdjlchbgdehccaaPicks
import Derived.Lib.AppendStr
namespace Go.Proofs.Ytdjlchbgdehccaa
open Go.RowKit

def twoI (k : Int) : List Int := [k % 256, k / 256]
/-- What an append that a call makes comes to. -/
def AppRes (base : Nat) (A : Option Addr) (n m : Nat) (L : List Value) (xs : List Int) (w : World) (e : Ending) (w' : World) : Prop :=
  ∃ (A3 : Option Addr) (c3 : Nat), e = .returned (.slice A3 (n + m) c3) ∧ w'.ownsRow base 5 1 (.slice A3 (n + m) c3) (n + m) (L ++ i8C xs) ∧ w.grownBy w' (blkOf A) ∧ (∀ g, blkOf A3 = some g → blkOf A = some g ∨ w.heap.size ≤ g)
theorem two_any (base n c : Nat) (A : Option Addr) (L : List Value) (k : Int) (w : World) (ho : w.ownsRow base 5 1 (.slice A n c) n L) (h0 : 0 ≤ k) (h1 : k ≤ 65535) (hn : n ≤ 100000000) (hbase : base ≤ w.heap.size) :
    Calls Try.prog 58 #[.slice A n c, .int .i64 k] w (AppRes base A n 2 L (twoI k) w) := by
  have Ho := Lib.hid ho; clear ho
  go_enter Try.func58, Try.ntmps58
  go_wp2_with (at_builtin; refine wpList_append_sl rfl _ _ _ rfl Try.u8T rfl (Ho.out.alloc _) rfl (Sl.blk (L := i8C (twoI k)) (Blk.new w 5 #[.int .u8 (k % 256), .int .u8 (k / 256)]) rfl rfl (Nat.lt_succ_self _)) (i8C_one _) (by unfold maxLen; omega) (by omega) (by simp; omega) ?_; intro A3 c3 w4 ho4 hg4 hat4)
  go_ret
  exact ⟨A3, c3, rfl, ho4, grown_of_alloc hg4, fun g e => (hat4 g e).imp id (fun h => by simp at h; omega)⟩
section
variable {ops : Array Oper} {rest : List Oper} {o : Oper} {a : Act} {Q : Exit → Act → World → Prop} {w : World}
theorem wpList_append_str (hgd : o.guard = none) (s x : Operand) (ho : o.op = .call { callee := .builtin .append, args := #[s, x], argTypes := #[27, 9] })
    {base n c : Nat} {A : Option Addr} {L : List Value} (hs : a.eval s = .slice A n c) (hown : w.ownsRow base 5 1 (.slice A n c) n L) {p : ByteArray} (hx : a.eval x = .string p)
    (hb : n + p.size ≤ 140737488355328) (hbase : base ≤ w.heap.size)
    (h : ∀ A3 c3 w', w'.ownsRow base 5 1 (.slice A3 (n + p.size) c3) (n + p.size) (L ++ i8C (bytesI p)) → w.grownBy w' (blkOf A) → wpList Try.prog ops Q rest (a.put o.dst (.slice A3 (n + p.size) c3)) w') :
    wpList Try.prog ops Q (o :: rest) a w := by
  obtain ⟨i, z, h2, h3, h4, h5, h6⟩ := Try.u8T.hi
  have hz : i.zero = some (.int .u8 0) := by
    have : (Try.prog.info? 5).map (fun i => i.zero) = some (some (.int .u8 0)) := by kernel_rfl
    rw [h2] at this
    injection this
  refine wpList_plain hgd fun K hK => ?_
  obtain ⟨v', w', hrun, ho2, hg2, _⟩ := Lib.run_append_own_string (P := Try.prog) (w := w) base 27 9 o.type 5 i Try.underlying27 Try.underlying9 h2 hz h4 h5 (.slice A n c) n L hown p (by unfold maxLen; omega) hb hbase
  obtain ⟨A3, c3, rfl⟩ : ∃ A3 c3, v' = .slice A3 (n + p.size) c3 := by
    rcases ho2.2 with ⟨hv, h0⟩ | ⟨g, cap, cur, hv, _⟩
    · exact ⟨none, 0, by rw [hv, h0]⟩
    · exact ⟨_, _, hv⟩
  unfold Oper.wp execOp
  simp only [ho, resolve, invoke, builtin, Sem.run_bind, Sem.run_pure, Result.andThen_ok, List.map_toArray, List.map_cons, List.map_nil, hs, hx, hrun]
  rw [strCells_i8] at ho2
  have hbk : (Value.slice A n c).ownBlock = blkOf A := by cases A <;> rfl
  rw [hbk] at hg2
  exact hK _ _ (h A3 c3 w' ho2 hg2)
end
def nodeI (x : Node) : List Int := (x.path.size : Int) :: (bytesI x.path ++ (twoI (x.file + 1) ++ twoI x.mode))
def fileI (m : Int) (d : ByteArray) : List Int := twoI m ++ (twoI d.size ++ bytesI d)
def filesI : List FC → List ByteArray → List Int
  | f :: fs, d :: ds => fileI f.mode d ++ filesI fs ds
  | _, _ => []
/-- A tree's bytes. -/
def treeI (t : TV) (ds : List ByteArray) : List Int := twoI t.nodes.length ++ (t.nodes.flatMap nodeI ++ (twoI t.files.length ++ filesI t.files ds))
theorem node_cells (pre : List Int) (x : Node) : i8C (pre ++ nodeI x) = (((i8C pre ++ i8C [(x.path.size : Int)]) ++ i8C (bytesI x.path)) ++ i8C (twoI (x.file + 1))) ++ i8C (twoI x.mode) := by simp [nodeI, i8C]
theorem file_cells (pre : List Int) (m : Int) (d : ByteArray) : i8C (pre ++ fileI m d) = ((i8C pre ++ i8C (twoI m)) ++ i8C (twoI d.size)) ++ i8C (bytesI d) := by simp [fileI, i8C]
theorem fileI_len (m : Int) (d : ByteArray) : (fileI m d).length = d.size + 4 := by simp [fileI, twoI, bytesI_len]
theorem nodeI_len (x : Node) : (nodeI x).length = x.path.size + 5 := by simp [nodeI, twoI, bytesI_len]
theorem filesI_snoc : ∀ (fs : List FC) (ds : List ByteArray) (k : Nat) (f : FC) (d : ByteArray), fs[k]? = some f → ds[k]? = some d → filesI (fs.take (k + 1)) (ds.take (k + 1)) = filesI (fs.take k) (ds.take k) ++ fileI f.mode d
  | [], _, k, f, d, h, _ => by simp at h
  | _ :: _, [], k, f, d, _, h => by simp at h
  | g :: fs, e :: ds, 0, f, d, h1, h2 => by simp at h1 h2; subst h1 h2; simp [filesI]
  | g :: fs, e :: ds, k + 1, f, d, h1, h2 => by
    simp only [List.take_succ_cons, filesI, List.append_assoc]
    rw [filesI_snoc fs ds k f d (by simpa using h1) (by simpa using h2)]
/-- The bytes written so far. -/
def BytesAt (base : Nat) (w wr : World) (tv : Array Value) (v : Value) (xs : List Int) (bound : Nat) : Prop :=
  ∃ (A : Option Addr) (n c : Nat), v = .slice A n c ∧ xs.length = n ∧ n ≤ bound ∧ wr.ownsRow base 5 1 (.slice A n c) n (i8C xs) ∧ base ≤ wr.heap.size ∧ Blk wr w.heap.size 26 tv ∧ Below w.heap.size w wr
def BytesRes (t : TV) (ds : List ByteArray) (w : World) (e : Ending) (w' : World) : Prop :=
  ∃ (A : Option Addr) (n c : Nat), e = .returned (.tuple #[.slice A n c, .int .i64 0]) ∧ (treeI t ds).length = n ∧ w'.ownsRow (w.heap.size + 1) 5 1 (.slice A n c) n (i8C (treeI t ds)) ∧ Below w.heap.size w w'
theorem bytes_no (t : TV) (w : World) (h : TreeAt w t) (hl : looseE t ≠ 0) : Calls Try.prog 32 #[t.val] w fun e w' => e = .returned (.tuple #[.slice none 0 0, .int .i64 (looseE t)]) ∧ Below w.heap.size w w' := by
  have HT := Lib.hid h; clear h
  obtain ⟨E, hE⟩ : ∃ E, looseE t = E := ⟨_, rfl⟩
  rw [hE] at hl ⊢
  have HE := Lib.hid hE; clear hE
  obtain ⟨nodes, files, NA, nn, nc, FA, fn, fc⟩ := t
  unfold TV.val
  have hB := Blk.new w 26 #[.slice NA nn nc, .slice FA fn fc]
  have hb := (Below.refl w.heap.size w).alloc (Nat.le_refl _) (.cells #[.slice NA nn nc, .slice FA fn fc] 26)
  have b0 := hB.cell 0
  have b1 := hB.cell 1
  have e2 : (E == 0) = false := beq_eq_false_iff_ne.2 hl
  have e3 : (E != 0) = true := bne_iff_ne.2 hl
  go_enter Try.func32, Try.ntmps32
  go_wp2_with (go_at_call 16; refine (loose_any ⟨nodes, files, NA, nn, nc, FA, fn, fc⟩ _ (HT.out.keep hb)).mono ?_; rintro e w3 ⟨rfl, hb3⟩; rw [HE.out])
  go_ret2
  exact ⟨rfl, hb.trans (hb3.mono hb.size)⟩
set_option maxRecDepth 100000 in
set_option maxHeartbeats 4000000 in
theorem bytes_yes (t : TV) (ds : List ByteArray) (w : World) (h : TreeD w t ds) (hl : looseE t = 0) : Calls Try.prog 32 #[t.val] w (BytesRes t ds w) := by
  have G := good_of_loose hl
  have HE := Lib.hid hl; clear hl
  have HT := Lib.hid h.tree
  have HD := Lib.hid h.dat
  have hns := h.tree.ns
  have hnl := h.tree.nl
  have hfs := h.tree.fs
  have hfl := h.tree.fl
  clear h
  obtain ⟨nodes, files, NA, nn, nc, FA, fn, fc⟩ := t
  have hn256 : nn ≤ 256 := G.nn
  have hf256 : fn ≤ 256 := G.fn
  have HG := Lib.hid G; clear G
  simp only at hns hnl hfs hfl
  have HS := Lib.hid hns; clear hns
  have Hn := Lib.hid hnl; clear hnl
  have HFS := Lib.hid hfs; clear hfs
  have Hfl := Lib.hid hfl; clear hfl
  unfold TV.val
  have hB := Blk.new w 26 #[.slice NA nn nc, .slice FA fn fc]
  have hb := (Below.refl w.heap.size w).alloc (Nat.le_refl _) (.cells #[.slice NA nn nc, .slice FA fn fc] 26)
  have hsz : w.heap.size + 1 ≤ (w.alloc (.cells #[.slice NA nn nc, .slice FA fn fc] 26)).heap.size := by simp
  have b0 := hB.cell 0
  have b1 := hB.cell 1
  obtain ⟨base, hbase⟩ : ∃ base, base = w.heap.size + 1 := ⟨_, rfl⟩
  have HBase := Lib.hid hbase
  rw [← hbase] at hsz
  have hbl : w.heap.size < base := by omega
  clear hbase
  go_enter Try.func32, Try.ntmps32
  go_upto_region 4 with (go_at_call 16; refine (loose_any ⟨nodes, files, NA, nn, nc, FA, fn, fc⟩ _ (HT.out.keep hb)).mono ?_; rintro e w3 ⟨rfl, hb3⟩; rw [HE.out]; replace hB := hB.below hb3 hB.lt; replace hb := hb.trans (hb3.mono hb.size); replace hsz := Nat.le_trans hsz hb3.size; have b0 := hB.cell 0; have b1 := hB.cell 1)
  go_upto_region 5 with (go_at_call 58; refine (two_any base 0 0 none [] nn _ (World.ownsRow_nil _ _ _ _) (by omega) (by omega) (by omega) hsz).mono ?_; rintro e w4 ⟨A, c, rfl, ho, hg, _⟩)
  rw [Nat.zero_add, List.nil_append] at ho
  replace hB := hB.grown hg (by simp [blkOf])
  have hb4 := hb.trans (below_grown hg hb.size (fun g e => by cases e))
  have hsz4 := Nat.le_trans hsz hg.size
  clear b0 b1 hg hb hsz
  have b0 := hB.cell 0
  have Ho := Lib.hid ho; clear ho
  go_wp2
  clear b0
  go_loopw [5, 22] (fun v i wr => ∃ k : Nat, k ≤ nn ∧ i = .int .i64 k ∧ BytesAt base w wr #[.slice NA nn nc, .slice FA fn fc] v (twoI nn ++ (nodes.take k).flatMap nodeI) (2 + 94 * k)) (fun _ i _ => nn - (intOf i).toNat)
  case atStart => exact ⟨0, Nat.zero_le _, rfl, A, 2, c, rfl, by simp [twoI], by omega, by simpa using Ho.out, hsz4, hB, hb4⟩
  case round =>
    clear hB hb4 hsz4 Ho
    obtain ⟨k, hk, rfl, A, n, c, rfl, hn, hnb, ho, hsz, hB, hb⟩ := hrel
    have Ho := Lib.hid ho; have HN := Lib.hid hn
    clear ho hn
    by_cases hlt : k < nn
    · have hki : (k : Int) < nn := by omega
      obtain ⟨xb, xo, x, rfl, hxb, hx, hc⟩ := (HS.out.keep (Nat.le_refl _) hb.block).get Node.len Hn.out hlt
      have c0 := hc 0 _ rfl
      have c1 := hc 1 _ rfl
      have c2 := hc 2 _ rfl
      simp only [Nat.add_zero] at c0 c1 c2
      clear hc
      have hxm := List.mem_of_getElem? hx
      have hx89 : x.path.size ≤ 89 := by have := valid_len (HG.out.valid x hxm); rwa [dlen] at this
      have hxk := HG.out.kind x hxm
      have hxf : 0 ≤ x.file + 1 ∧ x.file + 1 ≤ 65535 := by 
        rcases hxk with ⟨h1, _⟩ | ⟨h1, h2, _⟩
        · omega
        · have h3 : x.file < fn := h2
          omega
      have hxo : 0 ≤ x.mode ∧ x.mode ≤ 65535 := by
        rcases hxk with ⟨_, h1⟩ | ⟨_, _, h1⟩
        · have := of_decide_eq_true h1; omega
        · omega
      have HSnoc := Lib.hid (show twoI nn ++ (nodes.take (k + 1)).flatMap nodeI = (twoI nn ++ (nodes.take k).flatMap nodeI) ++ nodeI x by rw [take_snoc' hx]; simp)
      clear hx hxm hxk
      go_upto_region 8 with (fail)
      clear c0 c1 c2
      have hs := hb.size
      replace hb := hb.alloc hs (.cells #[.string x.path, .int .i64 x.file, .int .i64 x.mode] 29)
      replace hB := hB.alloc (.cells #[.string x.path, .int .i64 x.file, .int .i64 x.mode] 29)
      have hN := Blk.new wr 29 #[.string x.path, .int .i64 x.file, .int .i64 x.mode]
      replace Ho := Lib.hid (Ho.out.alloc (.cells #[.string x.path, .int .i64 x.file, .int .i64 x.mode] 29))
      have hsz' : base ≤ (wr.alloc (.cells #[.string x.path, .int .i64 x.file, .int .i64 x.mode] 29)).heap.size := by simp; omega
      obtain ⟨W1, hW1⟩ : ∃ W1, W1 = wr.alloc (.cells #[.string x.path, .int .i64 x.file, .int .i64 x.mode] 29) := ⟨_, rfl⟩
      rw [← hW1] at hB hb hN Ho hsz' ⊢
      obtain ⟨nb, hnb2⟩ : ∃ nb, nb = wr.heap.size := ⟨_, rfl⟩
      rw [← hnb2] at hN ⊢
      clear hW1 hnb2 hs hsz
      have hsz := hsz'; clear hsz'
      have n0 := hN.cell 0
      have hNl := hN.lt
      have hne1 : ¬ some nb = blkOf A := hN.ne_row Ho.out (by decide)
      refine wp_region_ordB (blkOf A) [(0, true), (1, true), (2, true), (3, true), (4, true), (7, true), (8, true), (5, false), (6, false), (9, false), (10, true)] (by kernel_rfl) (by kernel_rfl) fun hG0 => ?_
      repeat (first
        | (refine ord_skipB rfl (by rfl) ?_; simp only [Act.put, List.setIfInBounds_toArray, List.set_cons_zero, List.set_cons_succ])
        | (refine ord_qE rfl (by rfl) ?_; apply Exists.intro; refine ⟨fun w' hc' => ?_, ?_⟩; (focus (go_simp; (try go_bits); (try simp only [↓IntWalk.iteOmega]); with_reducible rfl)); simp only [Act.put, List.setIfInBounds_toArray, List.set_cons_zero, List.set_cons_succ]))
      refine ord_eB rfl fun K hK => ?_
      go_wp2_with (fail)
      have hG1 := grown_trans hG0 (World.grownBy_alloc W1.drew (.cells #[.int .u8 x.path.size] 5) (blkOf A))
      refine hK.out _ _ hG1 ?_
      clear hK K
      repeat (first
        | (refine ord_skipB rfl (by rfl) ?_; simp only [Act.put, List.setIfInBounds_toArray, List.set_cons_zero, List.set_cons_succ])
        | (refine ord_qE rfl (by rfl) ?_; apply Exists.intro; refine ⟨fun w' hc' => ?_, ?_⟩; (focus (go_simp; (try go_bits); (try simp only [↓IntWalk.iteOmega]); with_reducible rfl)); simp only [Act.put, List.setIfInBounds_toArray, List.set_cons_zero, List.set_cons_succ]))
      refine ord_eB rfl fun K hK => ?_
      go_wp2_with (at_builtin; refine wpList_append_sl rfl _ _ _ rfl Try.u8T rfl ((own_drew Ho.out).alloc _) rfl (Sl.blk (L := i8C [(x.path.size : Int)]) (Blk.new W1.drew 5 #[.int .u8 x.path.size]) rfl rfl (Nat.lt_succ_self _)) (i8C_one _) (by unfold maxLen; omega) (by omega) (by simp; omega) ?_; intro A1 c1 w4 ho4 hg4 hat4)
      have hG2 := grown_trans hG1 (hg4)
      refine hK.out _ _ hG2 ?_
      clear hK K
      repeat (first
        | (refine ord_skipB rfl (by rfl) ?_; simp only [Act.put, List.setIfInBounds_toArray, List.set_cons_zero, List.set_cons_succ])
        | (refine ord_qE rfl (by rfl) ?_; apply Exists.intro; refine ⟨fun w' hc' => ?_, ?_⟩; (focus (go_simp; (try go_bits); (try simp only [↓IntWalk.iteOmega]); with_reducible rfl)); simp only [Act.put, List.setIfInBounds_toArray, List.set_cons_zero, List.set_cons_succ]))
      refine ord_eB rfl fun K hK => ?_
      go_wp2_with (refine wpList_append_str rfl _ _ rfl rfl ho4 rfl (by omega) (by have := hg4.size; simp at this; omega) ?_; intro A2 c2 w5 ho5 hg5)
      have hG3 := grown_own hG2 hg5 (fun g e => (hat4 g e).imp id (fun h => by simp at h; omega))
      refine hK.out _ _ hG3 ?_
      clear hK K
      repeat (first
        | (refine ord_skipB rfl (by rfl) ?_; simp only [Act.put, List.setIfInBounds_toArray, List.set_cons_zero, List.set_cons_succ])
        | (refine ord_qE rfl (by rfl) ?_; apply Exists.intro; refine ⟨fun w' hc' => ?_, ?_⟩; (focus (go_simp; (try go_bits); (try simp only [↓IntWalk.iteOmega]); with_reducible rfl)); simp only [Act.put, List.setIfInBounds_toArray, List.set_cons_zero, List.set_cons_succ]))
      refine ord_end ?_
      replace hB := hB.grown hG3 (ne_own1 Ho.out hbl)
      replace hN := hN.grown hG3 hne1
      replace hb := hb.trans (below_grown hG3 hb.size (fun g e => Nat.le_trans (Nat.le_of_lt hbl) (own_blk1 Ho.out g e)))
      replace hsz := Nat.le_trans hsz hG3.size
      clear n0 hNl hne1 hG0 hG1 hG2 hG3 hg4 hat4 hg5 ho4 Ho
      have Ho := Lib.hid ho5; clear ho5
      have n1 := hN.cell 1
      have n2 := hN.cell 2
      have hNl := hN.lt
      have hne1 : ¬ some nb = blkOf A2 := hN.ne_row Ho.out (by decide)
      go_upto_region 9 with (fail)
      refine wp_region_ordB (blkOf A2) [(0, true), (1, true), (2, true), (3, true), (5, true), (6, true), (4, false), (7, false), (8, true)] (by kernel_rfl) (by kernel_rfl) fun hG0 => ?_
      repeat (first
        | (refine ord_skipB rfl (by rfl) ?_; simp only [Act.put, List.setIfInBounds_toArray, List.set_cons_zero, List.set_cons_succ])
        | (refine ord_qE rfl (by rfl) ?_; apply Exists.intro; refine ⟨fun w' hc' => ?_, ?_⟩; (focus (go_simp; (try go_bits); (try simp only [↓IntWalk.iteOmega]); with_reducible rfl)); simp only [Act.put, List.setIfInBounds_toArray, List.set_cons_zero, List.set_cons_succ]))
      refine ord_eB rfl fun K hK => ?_
      go_wp2_with (go_at_call 58; refine (two_any base _ _ _ _ _ _ (own_drew Ho.out) hxf.1 hxf.2 (by omega) hsz).mono ?_; rintro e w6 ⟨A3, c3, rfl, ho6, hg6, hat6⟩)
      have hG1 := grown_trans hG0 (hg6)
      refine hK.out _ _ hG1 ?_
      clear hK K
      repeat (first
        | (refine ord_skipB rfl (by rfl) ?_; simp only [Act.put, List.setIfInBounds_toArray, List.set_cons_zero, List.set_cons_succ])
        | (refine ord_qE rfl (by rfl) ?_; apply Exists.intro; refine ⟨fun w' hc' => ?_, ?_⟩; (focus (go_simp; (try go_bits); (try simp only [↓IntWalk.iteOmega]); with_reducible rfl)); simp only [Act.put, List.setIfInBounds_toArray, List.set_cons_zero, List.set_cons_succ]))
      refine ord_eB rfl fun K hK => ?_
      go_wp2_with (go_at_call 58; refine (two_any base _ _ _ _ _ _ ho6 hxo.1 hxo.2 (by omega) (Nat.le_trans hsz hg6.size)).mono ?_; rintro e w7 ⟨A4, c4, rfl, ho7, hg7, hat7⟩)
      have hG2 := grown_own hG1 hg7 (fun g e => (hat6 g e).imp id (fun h => h))
      refine hK.out _ _ hG2 ?_
      clear hK K
      repeat (first
        | (refine ord_skipB rfl (by rfl) ?_; simp only [Act.put, List.setIfInBounds_toArray, List.set_cons_zero, List.set_cons_succ])
        | (refine ord_qE rfl (by rfl) ?_; apply Exists.intro; refine ⟨fun w' hc' => ?_, ?_⟩; (focus (go_simp; (try go_bits); (try simp only [↓IntWalk.iteOmega]); with_reducible rfl)); simp only [Act.put, List.setIfInBounds_toArray, List.set_cons_zero, List.set_cons_succ]))
      refine ord_end ?_
      clear n1 n2
      replace hB := hB.grown hG2 (ne_own1 Ho.out hbl)
      replace hb := hb.trans (below_grown hG2 hb.size (fun g e => Nat.le_trans (Nat.le_of_lt hbl) (own_blk1 Ho.out g e)))
      replace hsz := Nat.le_trans hsz hG2.size
      have HO7 := Lib.hid ho7
      clear ho7 ho6 hG0 hG1 hG2 hg6 hg7 hat6 hat7
      go_wp2
      go_roundw
      case rel => exact ⟨k + 1, by omega, by go_num, A4, n + 1 + x.path.size + 2 + 2, c4, rfl, by rw [HSnoc.out, List.length_append, HN.out, nodeI_len]; omega, by omega, by rw [HSnoc.out, node_cells]; exact HO7.out, hsz, hB, hb⟩
      case measure => simp [intOf]; omega
    · obtain rfl : k = nn := by omega
      have hki : ¬ (k : Int) < k := by omega
      have b1 := hB.cell 1
      rw [List.take_of_length_le (by rw [Hn.out]; exact Nat.le_refl _)] at HN Ho
      go_upto_region 12 with (go_at_call 58; refine (two_any base n c A _ fn _ Ho.out (by omega) (by omega) (by omega) hsz).mono ?_; rintro e w5 ⟨A5, c5, rfl, ho5, hg5, hat5⟩)
      replace hB := hB.grown hg5 (ne_own1 Ho.out hbl)
      replace hb := hb.trans (below_grown hg5 hb.size (fun g e => Nat.le_trans (Nat.le_of_lt hbl) (own_blk1 Ho.out g e)))
      replace hsz := Nat.le_trans hsz hg5.size
      clear b1 Ho hg5 hat5
      have Ho := Lib.hid ho5; clear ho5
      have b1 := hB.cell 1
      go_wp2
      clear b1
      obtain ⟨pre, hpre⟩ : ∃ pre, pre = (twoI k ++ nodes.flatMap nodeI) ++ twoI fn := ⟨_, rfl⟩
      have hpl : pre.length = n + 2 := by rw [hpre, List.length_append, HN.out]; rfl
      rw [← i8C_append, ← hpre] at Ho
      have HPre := Lib.hid hpre; clear hpre HN
      have hn25 : n + 2 ≤ 25000 := by omega
      clear hnb
      go_loopw [5, 53] (fun v i wr => ∃ j : Nat, j ≤ fn ∧ i = .int .i64 j ∧ BytesAt base w wr #[.slice NA k nc, .slice FA fn fc] v (pre ++ filesI (files.take j) (ds.take j)) (25000 + 8200 * j)) (fun _ i _ => fn - (intOf i).toNat)
      case atStart => exact ⟨0, Nat.zero_le _, rfl, A5, n + 2, c5, rfl, by simpa [filesI] using hpl, by omega, by simpa [filesI] using Ho.out, hsz, hB, hb⟩
      case round =>
        clear hB hb hsz Ho
        obtain ⟨j, hj, rfl, A, n2, c, rfl, hn2, hnb, ho, hsz, hB, hb⟩ := hrel
        have Ho := Lib.hid ho; have HN := Lib.hid hn2
        clear ho hn2
        by_cases hlt : j < fn
        · have hki : (j : Int) < fn := by omega
          obtain ⟨xb, xo, x, rfl, hxb, hx, hc⟩ := (HFS.out.keep (Nat.le_refl _) hb.block).get FC.len Hfl.out hlt
          obtain ⟨d, hdx, hdn, hds⟩ := HD.out.get hx
          have c0 := hc 0 _ rfl
          have c1 := hc 1 _ rfl
          simp only [Nat.add_zero] at c0 c1
          clear hc
          have hxm := List.mem_of_getElem? hx
          have hx8 : x.n ≤ 8192 := HG.out.small x hxm
          have hxo : 0 ≤ x.mode ∧ x.mode ≤ 65535 := by have := of_decide_eq_true (HG.out.modes x hxm); omega
          have hsn := filesI_snoc files ds j x d hx hdx
          have HSnoc := Lib.hid (show pre ++ filesI (files.take (j + 1)) (ds.take (j + 1)) = (pre ++ filesI (files.take j) (ds.take j)) ++ fileI x.mode d by rw [hsn]; simp)
          rw [bytesC_i8] at hds
          have Hds := Lib.hid hds; have Hdn := Lib.hid hdn
          clear hx hxm hdx hsn hds hdn
          go_upto_region 15 with (fail)
          clear c0 c1
          have hs := hb.size
          replace hb := hb.alloc hs (.cells #[.int .i64 x.mode, .slice x.A x.n x.c] 39)
          replace hB := hB.alloc (.cells #[.int .i64 x.mode, .slice x.A x.n x.c] 39)
          have hN := Blk.new wr 39 #[.int .i64 x.mode, .slice x.A x.n x.c]
          replace Ho := Lib.hid (Ho.out.alloc (.cells #[.int .i64 x.mode, .slice x.A x.n x.c] 39))
          have hsz' : base ≤ (wr.alloc (.cells #[.int .i64 x.mode, .slice x.A x.n x.c] 39)).heap.size := by simp; omega
          obtain ⟨W1, hW1⟩ : ∃ W1, W1 = wr.alloc (.cells #[.int .i64 x.mode, .slice x.A x.n x.c] 39) := ⟨_, rfl⟩
          rw [← hW1] at hB hb hN Ho hsz' ⊢
          obtain ⟨nb, hnb2⟩ : ∃ nb, nb = wr.heap.size := ⟨_, rfl⟩
          rw [← hnb2] at hN ⊢
          clear hW1 hnb2 hs hsz
          have hsz := hsz'; clear hsz'
          have n0 := hN.cell 0
          have n1 := hN.cell 1
          have hNl := hN.lt
          have hne1 : ¬ some nb = blkOf A := hN.ne_row Ho.out (by decide)
          have hbo := own_blk1 Ho.out
          have HBO := Lib.hid (fun g e => Nat.le_trans (Nat.le_of_lt hbl) (hbo g e)); clear hbo
          refine wp_region_ordB (blkOf A) [(0, true), (1, true), (2, true), (4, true), (5, true), (6, true), (8, true), (9, true), (3, false), (7, false), (10, false), (11, true)] (by kernel_rfl) (by kernel_rfl) fun hG0 => ?_
          repeat (first
            | (refine ord_skipB rfl (by rfl) ?_; simp only [Act.put, List.setIfInBounds_toArray, List.set_cons_zero, List.set_cons_succ])
            | (refine ord_qE rfl (by rfl) ?_; apply Exists.intro; refine ⟨fun w' hc' => ?_, ?_⟩; (focus (go_simp; (try go_bits); (try simp only [↓IntWalk.iteOmega]); with_reducible rfl)); simp only [Act.put, List.setIfInBounds_toArray, List.set_cons_zero, List.set_cons_succ]))
          refine ord_eB rfl fun K hK => ?_
          go_wp2_with (go_at_call 58; refine (two_any base _ _ _ _ _ _ (own_drew Ho.out) hxo.1 hxo.2 (by omega) hsz).mono ?_; rintro e w6 ⟨A3, c3, rfl, ho6, hg6, hat6⟩)
          have hG1 := grown_trans hG0 (hg6)
          refine hK.out _ _ hG1 ?_
          clear hK K
          repeat (first
            | (refine ord_skipB rfl (by rfl) ?_; simp only [Act.put, List.setIfInBounds_toArray, List.set_cons_zero, List.set_cons_succ])
            | (refine ord_qE rfl (by rfl) ?_; apply Exists.intro; refine ⟨fun w' hc' => ?_, ?_⟩; (focus (go_simp; (try go_bits); (try simp only [↓IntWalk.iteOmega]); with_reducible rfl)); simp only [Act.put, List.setIfInBounds_toArray, List.set_cons_zero, List.set_cons_succ]))
          refine ord_eB rfl fun K hK => ?_
          go_wp2_with (go_at_call 58; refine (two_any base _ _ _ _ _ _ ho6 (by omega) (by omega) (by omega) (Nat.le_trans hsz hg6.size)).mono ?_; rintro e w7 ⟨A4, c4, rfl, ho7, hg7, hat7⟩)
          have hG2 := grown_own hG1 hg7 hat6
          refine hK.out _ _ hG2 ?_
          clear hK K
          repeat (first
            | (refine ord_skipB rfl (by rfl) ?_; simp only [Act.put, List.setIfInBounds_toArray, List.set_cons_zero, List.set_cons_succ])
            | (refine ord_qE rfl (by rfl) ?_; apply Exists.intro; refine ⟨fun w' hc' => ?_, ?_⟩; (focus (go_simp; (try go_bits); (try simp only [↓IntWalk.iteOmega]); with_reducible rfl)); simp only [Act.put, List.setIfInBounds_toArray, List.set_cons_zero, List.set_cons_succ]))
          refine ord_eB rfl fun K hK => ?_
          go_wp2_with (at_builtin; refine wpList_append_sl rfl _ _ _ rfl Try.u8T rfl ho7 rfl (Hds.out.below (hb.trans (below_grown hG2 hb.size HBO.out)) (Nat.le_refl _)) (i8C_one _) (by unfold maxLen; omega) (by omega) (Nat.le_trans hsz hG2.size) ?_; intro A5 c5 w8 ho8 hg8 hat8)
          have hG3 := grown_own hG2 hg8 (fun g e => (hat7 g e).elim (hat6 g) (fun h => .inr (Nat.le_trans hG1.size h)))
          refine hK.out _ _ hG3 ?_
          clear hK K
          repeat (first
            | (refine ord_skipB rfl (by rfl) ?_; simp only [Act.put, List.setIfInBounds_toArray, List.set_cons_zero, List.set_cons_succ])
            | (refine ord_qE rfl (by rfl) ?_; apply Exists.intro; refine ⟨fun w' hc' => ?_, ?_⟩; (focus (go_simp; (try go_bits); (try simp only [↓IntWalk.iteOmega]); with_reducible rfl)); simp only [Act.put, List.setIfInBounds_toArray, List.set_cons_zero, List.set_cons_succ]))
          refine ord_end ?_
          clear n0 n1
          replace hB := hB.grown hG3 (ne_own1 Ho.out hbl)
          replace hb := hb.trans (below_grown hG3 hb.size HBO.out)
          replace hsz := Nat.le_trans hsz hG3.size
          have HO8 := Lib.hid ho8
          clear ho8 ho7 ho6 hG0 hG1 hG2 hG3 hg6 hg7 hg8 hat6 hat7 hat8
          go_wp2
          go_roundw
          case rel => exact ⟨j + 1, by omega, by go_num, A5, n2 + 2 + 2 + x.n, c5, rfl, by rw [HSnoc.out, List.length_append, HN.out, fileI_len, Hdn.out]; omega, by omega, by rw [HSnoc.out, file_cells, Hdn.out]; exact HO8.out, hsz, hB, hb⟩
          case measure => simp [intOf]; omega
        · obtain rfl : j = fn := by omega
          have hki : ¬ (j : Int) < j := by omega
          rw [List.take_of_length_le (by rw [Hfl.out]; exact Nat.le_refl _), List.take_of_length_le (by rw [HD.out.len, Hfl.out]; exact Nat.le_refl _)] at HN Ho
          have hE : pre ++ filesI files ds = treeI ⟨nodes, files, NA, k, nc, FA, j, fc⟩ ds := by
            rw [HPre.out]
            show _ = twoI (nodes.length : Nat) ++ (nodes.flatMap nodeI ++ (twoI (files.length : Nat) ++ filesI files ds))
            rw [Hn.out, Hfl.out]; simp
          rw [hE] at HN Ho
          clear hE
          go_wp2
          go_ret2
          exact ⟨A, n2, c, rfl, HN.out, by rw [← HBase.out]; exact Ho.out, hb⟩
end Go.Proofs.Ytdjlchbgdehccaa
