/- shuntref6.Bytes. -/
import Derived.Test.YtdjlchbgdehccaaBytes
namespace Go.Proofs.Ytdjlchbgdehccaa
open Go.RowKit

theorem rtwo_any (base n c : Nat) (A : Option Addr) (L : List Value) (k : Int) (w : World) (ho : w.ownsRow base 5 1 (.slice A n c) n L) (h0 : 0 ≤ k) (h1 : k ≤ 65535) (hn : n ≤ 100000000) (hbase : base ≤ w.heap.size) :
    Calls Try.prog 65 #[.slice A n c, .int .i64 k] w (AppRes base A n 2 L (twoI k) w) := by
  have Ho := Lib.hid ho; clear ho
  go_enter Try.func65, Try.ntmps65
  go_wp2_with (at_builtin; refine wpList_append_sl rfl _ _ _ rfl Try.u8T rfl (Ho.out.alloc _) rfl (Sl.blk (L := i8C (twoI k)) (Blk.new w 5 #[.int .u8 (k % 256), .int .u8 (k / 256)]) rfl rfl (Nat.lt_succ_self _)) (i8C_one _) (by unfold maxLen; omega) (by omega) (by simp; omega) ?_; intro A3 c3 w4 ho4 hg4 hat4)
  go_ret
  exact ⟨A3, c3, rfl, ho4, grown_of_alloc hg4, fun g e => (hat4 g e).imp id (fun h => by simp at h; omega)⟩
def RBytesRes (t : TV) (ds : List ByteArray) (w : World) (e : Ending) (w' : World) : Prop :=
  ∃ (A : Option Addr) (n c : Nat), e = .returned (.slice A n c) ∧ (treeI t ds).length = n ∧ w'.ownsRow (w.heap.size + 1) 5 1 (.slice A n c) n (i8C (treeI t ds)) ∧ Below w.heap.size w w'
set_option maxRecDepth 100000 in
set_option maxHeartbeats 4000000 in
theorem rbytes_any (t : TV) (ds : List ByteArray) (w : World) (h : TreeD w t ds) (hl : looseE t = 0) : Calls Try.prog 39 #[t.val] w (RBytesRes t ds w) := by
  have G := good_of_loose hl
  clear hl
  have HD := Lib.hid h.dat
  have hns := h.tree.ns
  have hnl := h.tree.nl
  have hfs := h.tree.fs
  have hfl := h.tree.fl
  clear h
  obtain ⟨nodes, files, NA, nn, nc, FA, fn, fc⟩ := t
  have hn256 : nn ≤ 256 := G.nn
  have hf256 : fn ≤ 256 := G.fn
  have HG := Lib.hid G; clear G
  simp only at hns hnl hfs hfl
  have HS := Lib.hid hns; clear hns
  have Hn := Lib.hid hnl; clear hnl
  have HFS := Lib.hid hfs; clear hfs
  have Hfl := Lib.hid hfl; clear hfl
  unfold TV.val
  have hB := Blk.new w 26 #[.slice NA nn nc, .slice FA fn fc]
  have hb := (Below.refl w.heap.size w).alloc (Nat.le_refl _) (.cells #[.slice NA nn nc, .slice FA fn fc] 26)
  have hsz : w.heap.size + 1 ≤ (w.alloc (.cells #[.slice NA nn nc, .slice FA fn fc] 26)).heap.size := by simp
  have b0 := hB.cell 0
  obtain ⟨base, hbase⟩ : ∃ base, base = w.heap.size + 1 := ⟨_, rfl⟩
  have HBase := Lib.hid hbase
  rw [← hbase] at hsz
  have hbl : w.heap.size < base := by omega
  clear hbase
  go_enter Try.func39, Try.ntmps39
  go_upto_region 2 with (go_at_call 65; refine (rtwo_any base 0 0 none [] nn _ (World.ownsRow_nil _ _ _ _) (by omega) (by omega) (by omega) hsz).mono ?_; rintro e w4 ⟨A, c, rfl, ho, hg, _⟩)
  rw [Nat.zero_add, List.nil_append] at ho
  replace hB := hB.grown hg (by simp [blkOf])
  have hb4 := hb.trans (below_grown hg hb.size (fun g e => by cases e))
  have hsz4 := Nat.le_trans hsz hg.size
  clear b0 hg hb hsz
  have Ho := Lib.hid ho; clear ho
  go_wp2
  go_loopw [3, 4] (fun v i wr => ∃ k : Nat, k ≤ nn ∧ i = .int .i64 k ∧ BytesAt base w wr #[.slice NA nn nc, .slice FA fn fc] v (twoI nn ++ (nodes.take k).flatMap nodeI) (2 + 94 * k)) (fun _ i _ => nn - (intOf i).toNat)
  case atStart => exact ⟨0, Nat.zero_le _, rfl, A, 2, c, rfl, by simp [twoI], by omega, by simpa using Ho.out, hsz4, hB, hb4⟩
  case round =>
    clear hB hb4 hsz4 Ho
    obtain ⟨k, hk, rfl, A, n, c, rfl, hn, hnb, ho, hsz, hB, hb⟩ := hrel
    have Ho := Lib.hid ho; have HN := Lib.hid hn
    clear ho hn
    have b0 := hB.cell 0
    by_cases hlt : k < nn
    · have hki : (k : Int) < nn := by omega
      obtain ⟨xb, xo, x, rfl, hxb, hx, hc⟩ := (HS.out.keep (Nat.le_refl _) hb.block).get Node.len Hn.out hlt
      have c0 := hc 0 _ rfl
      have c1 := hc 1 _ rfl
      have c2 := hc 2 _ rfl
      simp only [Nat.add_zero] at c0 c1 c2
      clear hc
      have hxm := List.mem_of_getElem? hx
      have hx89 : x.path.size ≤ 89 := by have := valid_len (HG.out.valid x hxm); rwa [dlen] at this
      have hxk := HG.out.kind x hxm
      have hxf : 0 ≤ x.file + 1 ∧ x.file + 1 ≤ 65535 := by
        rcases hxk with ⟨h1, _⟩ | ⟨h1, h2, _⟩
        · omega
        · have h3 : x.file < fn := h2
          omega
      have hxo : 0 ≤ x.mode ∧ x.mode ≤ 65535 := by
        rcases hxk with ⟨_, h1⟩ | ⟨_, _, h1⟩
        · have := of_decide_eq_true h1; omega
        · omega
      have HSnoc := Lib.hid (show twoI nn ++ (nodes.take (k + 1)).flatMap nodeI = (twoI nn ++ (nodes.take k).flatMap nodeI) ++ nodeI x by rw [take_snoc' hx]; simp)
      clear hx hxm hxk
      go_upto_region 6 with (fail)
      clear c0 c1 c2 b0
      have hs := hb.size
      replace hb := hb.alloc hs (.cells #[.string x.path, .int .i64 x.file, .int .i64 x.mode] 29)
      replace hB := hB.alloc (.cells #[.string x.path, .int .i64 x.file, .int .i64 x.mode] 29)
      have hN := Blk.new wr 29 #[.string x.path, .int .i64 x.file, .int .i64 x.mode]
      replace Ho := Lib.hid (Ho.out.alloc (.cells #[.string x.path, .int .i64 x.file, .int .i64 x.mode] 29))
      have hsz' : base ≤ (wr.alloc (.cells #[.string x.path, .int .i64 x.file, .int .i64 x.mode] 29)).heap.size := by simp; omega
      obtain ⟨W1, hW1⟩ : ∃ W1, W1 = wr.alloc (.cells #[.string x.path, .int .i64 x.file, .int .i64 x.mode] 29) := ⟨_, rfl⟩
      rw [← hW1] at hB hb hN Ho hsz' ⊢
      obtain ⟨nb, hnb2⟩ : ∃ nb, nb = wr.heap.size := ⟨_, rfl⟩
      rw [← hnb2] at hN ⊢
      clear hW1 hnb2 hs hsz
      have hsz := hsz'; clear hsz'
      have n0 := hN.cell 0
      go_upto_region 7 with (at_builtin; refine wpList_append_sl rfl _ _ _ rfl Try.u8T rfl (Ho.out.alloc _) rfl (Sl.blk (L := i8C [(x.path.size : Int)]) (Blk.new W1 5 #[.int .u8 x.path.size]) rfl rfl (Nat.lt_succ_self _)) (i8C_one _) (by unfold maxLen; omega) (by omega) (by simp; omega) ?_; intro A1 c1 w4 ho4 hg4 hat4)
      have hg4' := grown_of_alloc hg4
      replace hN := hN.grown hg4' (hN.ne_row Ho.out (by decide))
      replace hB := hB.grown hg4' (ne_own1 Ho.out hbl)
      replace hb := hb.trans (below_grown hg4' hb.size (fun g e => Nat.le_trans (Nat.le_of_lt hbl) (own_blk1 Ho.out g e)))
      replace hsz := Nat.le_trans hsz hg4'.size
      clear n0 Ho hg4 hg4' hat4
      have Ho := Lib.hid ho4; clear ho4
      have n0 := hN.cell 0
      go_upto_region 8 with (refine wpList_append_str rfl _ _ rfl rfl Ho.out rfl (by omega) hsz ?_; intro A2 c2 w5 ho5 hg5)
      replace hN := hN.grown hg5 (hN.ne_row Ho.out (by decide))
      replace hB := hB.grown hg5 (ne_own1 Ho.out hbl)
      replace hb := hb.trans (below_grown hg5 hb.size (fun g e => Nat.le_trans (Nat.le_of_lt hbl) (own_blk1 Ho.out g e)))
      replace hsz := Nat.le_trans hsz hg5.size
      clear n0 Ho hg5
      have Ho := Lib.hid ho5; clear ho5
      have n1 := hN.cell 1
      go_upto_region 9 with (go_at_call 65; refine (rtwo_any base _ _ _ _ _ _ Ho.out hxf.1 hxf.2 (by omega) hsz).mono ?_; rintro e w6 ⟨A3, c3, rfl, ho6, hg6, hat6⟩)
      replace hN := hN.grown hg6 (hN.ne_row Ho.out (by decide))
      replace hB := hB.grown hg6 (ne_own1 Ho.out hbl)
      replace hb := hb.trans (below_grown hg6 hb.size (fun g e => Nat.le_trans (Nat.le_of_lt hbl) (own_blk1 Ho.out g e)))
      replace hsz := Nat.le_trans hsz hg6.size
      clear n1 Ho hg6 hat6
      have Ho := Lib.hid ho6; clear ho6
      have n2 := hN.cell 2
      go_wp2_with (go_at_call 65; refine (rtwo_any base _ _ _ _ _ _ Ho.out hxo.1 hxo.2 (by omega) hsz).mono ?_; rintro e w7 ⟨A4, c4, rfl, ho7, hg7, hat7⟩)
      replace hB := hB.grown hg7 (ne_own1 Ho.out hbl)
      replace hb := hb.trans (below_grown hg7 hb.size (fun g e => Nat.le_trans (Nat.le_of_lt hbl) (own_blk1 Ho.out g e)))
      replace hsz := Nat.le_trans hsz hg7.size
      have HO7 := Lib.hid ho7
      clear ho7 hg7 hat7 n2
      go_roundw
      case rel => exact ⟨k + 1, by omega, by go_num, A4, n + 1 + x.path.size + 2 + 2, c4, rfl, by rw [HSnoc.out, List.length_append, HN.out, nodeI_len]; omega, by omega, by rw [HSnoc.out, node_cells]; exact HO7.out, hsz, hB, hb⟩
      case measure => simp [intOf]; omega
    · obtain rfl : k = nn := by omega
      have hki : ¬ (k : Int) < k := by omega
      have b1 := hB.cell 1
      rw [List.take_of_length_le (by rw [Hn.out]; exact Nat.le_refl _)] at HN Ho
      go_upto_region 11 with (go_at_call 65; refine (rtwo_any base n c A _ fn _ Ho.out (by omega) (by omega) (by omega) hsz).mono ?_; rintro e w5 ⟨A5, c5, rfl, ho5, hg5, hat5⟩)
      replace hB := hB.grown hg5 (ne_own1 Ho.out hbl)
      replace hb := hb.trans (below_grown hg5 hb.size (fun g e => Nat.le_trans (Nat.le_of_lt hbl) (own_blk1 Ho.out g e)))
      replace hsz := Nat.le_trans hsz hg5.size
      clear b0 b1 Ho hg5 hat5
      have Ho := Lib.hid ho5; clear ho5
      go_wp2
      obtain ⟨pre, hpre⟩ : ∃ pre, pre = (twoI k ++ nodes.flatMap nodeI) ++ twoI fn := ⟨_, rfl⟩
      have hpl : pre.length = n + 2 := by rw [hpre, List.length_append, HN.out]; rfl
      rw [← i8C_append, ← hpre] at Ho
      have HPre := Lib.hid hpre; clear hpre HN
      have hn25 : n + 2 ≤ 25000 := by omega
      clear hnb
      go_loopw [3, 6] (fun v i wr => ∃ j : Nat, j ≤ fn ∧ i = .int .i64 j ∧ BytesAt base w wr #[.slice NA k nc, .slice FA fn fc] v (pre ++ filesI (files.take j) (ds.take j)) (25000 + 8200 * j)) (fun _ i _ => fn - (intOf i).toNat)
      case atStart => exact ⟨0, Nat.zero_le _, rfl, A5, n + 2, c5, rfl, by simpa [filesI] using hpl, by omega, by simpa [filesI] using Ho.out, hsz, hB, hb⟩
      case round =>
        clear hB hb hsz Ho
        obtain ⟨j, hj, rfl, A, n2, c, rfl, hn2, hnb, ho, hsz, hB, hb⟩ := hrel
        have Ho := Lib.hid ho; have HN := Lib.hid hn2
        clear ho hn2
        have b1 := hB.cell 1
        by_cases hlt : j < fn
        · have hki : (j : Int) < fn := by omega
          obtain ⟨xb, xo, x, rfl, hxb, hx, hc⟩ := (HFS.out.keep (Nat.le_refl _) hb.block).get FC.len Hfl.out hlt
          obtain ⟨d, hdx, hdn, hds⟩ := HD.out.get hx
          have c0 := hc 0 _ rfl
          simp only [Nat.add_zero] at c0
          clear hc
          have hxm := List.mem_of_getElem? hx
          have hx8 : x.n ≤ 8192 := HG.out.small x hxm
          have hxo : 0 ≤ x.mode ∧ x.mode ≤ 65535 := by have := of_decide_eq_true (HG.out.modes x hxm); omega
          have hsn := filesI_snoc files ds j x d hx hdx
          have HSnoc := Lib.hid (show pre ++ filesI (files.take (j + 1)) (ds.take (j + 1)) = (pre ++ filesI (files.take j) (ds.take j)) ++ fileI x.mode d by rw [hsn]; simp)
          rw [bytesC_i8] at hds
          have Hds := Lib.hid hds; have Hdn := Lib.hid hdn; have HX := Lib.hid hx
          clear hx hxm hdx hsn hds hdn
          have hcell : ∀ (W : World), Below w.heap.size w W → W.cell? ⟨xb, xo + j * 2 + 1, none⟩ = some (.slice x.A x.n x.c) := fun W hW => by
            obtain ⟨_, _, z, he, _, hz, hcz⟩ := (HFS.out.keep (Nat.le_refl _) hW.block).get FC.len Hfl.out hlt
            injection he with he; injection he with e1 e2 _; subst e1 e2
            obtain rfl : x = z := by have h1 := HX.out; rw [hz] at h1; injection h1 with h1; exact h1.symm
            exact hcz 1 _ rfl
          have HC := Lib.hid hcell; clear hcell
          go_upto_region 15 with (go_at_call 65; refine (rtwo_any base _ _ _ _ _ _ Ho.out hxo.1 hxo.2 (by omega) hsz).mono ?_; rintro e w6 ⟨A3, c3, rfl, ho6, hg6, hat6⟩)
          replace hB := hB.grown hg6 (ne_own1 Ho.out hbl)
          replace hb := hb.trans (below_grown hg6 hb.size (fun g e => Nat.le_trans (Nat.le_of_lt hbl) (own_blk1 Ho.out g e)))
          replace hsz := Nat.le_trans hsz hg6.size
          clear b1 c0 Ho hg6 hat6
          have Ho := Lib.hid ho6; clear ho6
          have b1 := hB.cell 1
          have c1 := HC.out _ hb
          go_upto_region 16 with (go_at_call 65; refine (rtwo_any base _ _ _ _ _ _ Ho.out (by omega) (by omega) (by omega) hsz).mono ?_; rintro e w7 ⟨A4, c4, rfl, ho7, hg7, hat7⟩)
          replace hB := hB.grown hg7 (ne_own1 Ho.out hbl)
          replace hb := hb.trans (below_grown hg7 hb.size (fun g e => Nat.le_trans (Nat.le_of_lt hbl) (own_blk1 Ho.out g e)))
          replace hsz := Nat.le_trans hsz hg7.size
          clear b1 c1 Ho hg7 hat7
          have Ho := Lib.hid ho7; clear ho7
          have b1 := hB.cell 1
          have c1 := HC.out _ hb
          go_wp2_with (at_builtin; refine wpList_append_sl rfl _ _ _ rfl Try.u8T rfl Ho.out rfl (Hds.out.below hb (Nat.le_refl _)) (i8C_one _) (by unfold maxLen; omega) (by omega) hsz ?_; intro A5 c5 w8 ho8 hg8 hat8)
          replace hB := hB.grown hg8 (ne_own1 Ho.out hbl)
          replace hb := hb.trans (below_grown hg8 hb.size (fun g e => Nat.le_trans (Nat.le_of_lt hbl) (own_blk1 Ho.out g e)))
          replace hsz := Nat.le_trans hsz hg8.size
          have HO8 := Lib.hid ho8
          clear ho8 hg8 hat8 b1 c1
          go_roundw
          case rel => exact ⟨j + 1, by omega, by go_num, A5, n2 + 2 + 2 + x.n, c5, rfl, by rw [HSnoc.out, List.length_append, HN.out, fileI_len, Hdn.out]; omega, by omega, by rw [HSnoc.out, file_cells, Hdn.out]; exact HO8.out, hsz, hB, hb⟩
          case measure => simp [intOf]; omega
        · obtain rfl : j = fn := by omega
          have hki : ¬ (j : Int) < j := by omega
          rw [List.take_of_length_le (by rw [Hfl.out]; exact Nat.le_refl _), List.take_of_length_le (by rw [HD.out.len, Hfl.out]; exact Nat.le_refl _)] at HN Ho
          have hE : pre ++ filesI files ds = treeI ⟨nodes, files, NA, k, nc, FA, j, fc⟩ ds := by
            rw [HPre.out]
            show _ = twoI (nodes.length : Nat) ++ (nodes.flatMap nodeI ++ (twoI (files.length : Nat) ++ filesI files ds))
            rw [Hn.out, Hfl.out]; simp
          rw [hE] at HN Ho
          clear hE
          go_wp2
          go_ret
          exact ⟨A, n2, c, rfl, HN.out, by rw [← HBase.out]; exact Ho.out, hb⟩
end Go.Proofs.Ytdjlchbgdehccaa
