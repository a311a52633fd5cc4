/- model.Do: the tree behind an instruction. -/
import Derived.Test.YthmeffpickejkaaInvD
import Derived.Test.YthmeffpickejkaaTell
namespace Go.Proofs.Ythmeffpickejkaa
open Go.RowKit

/-- A tree that a world was told as. -/
structure ToldAs (M : PW) (base : Nat) (w' : World) (S : List Node) (u : TV) : Prop where
  perm : S.Perm M.nodes
  rises : Rises S
  nodes : u.nodes = S.map (reN (idsL S))
  nn : u.nn = S.length
  fn : u.fn = (idsL S).length
  fl : u.files.length = u.fn
  modes : u.files.map (·.mode) = (idsL S).map (fun i => (M.F i).1)
  own : w'.ownsRow base 48 3 (.slice u.NA u.nn u.nc) u.nn (u.nodes.flatMap Node.list)
  ownF : w'.ownsRow base 52 2 (.slice u.FA u.fn u.fc) u.fn (u.files.flatMap FC.list)
  rows : FRows w' base u.files ((idsL S).map fun i => (M.F i).2)
def zeroTV : TV := ⟨[], [], none, 0, 0, none, 0, 0⟩
/-- What Do says. -/
def DoE (t : TV) (ds : List ByteArray) (c : Cmd) (sd : List ByteArray) : Int := if looseE t = 0 then doE (openM t ds) c sd else looseE t
def DoRes (E : Int) (M' : PW) (w : World) (e : Ending) (w' : World) : Prop :=
  ∃ u : TV, e = .returned (.tuple #[u.val, .int .i64 E]) ∧ (E ≠ 0 → u = zeroTV) ∧ (E = 0 → ∃ S, ToldAs M' w.heap.size w' S u) ∧ Below w.heap.size w w'
theorem ToldAs.store {M : PW} {base : Nat} {w w' : World} {S : List Node} {u : TV} (h : ToldAs M base w S u) {g : Nat} {cs : Array Value} (hb : Blk w g 25 cs) (hg : w.grownBy w' (some g)) : ToldAs M base w' S u :=
  { h with
    own := own_keep h.own fun g o (e : u.NA = _) => hg.block g (own_lt2 (by rw [← e]; exact h.own)).2.1 (fun e2 => hb.ne_row h.own (by decide) (by rw [← e2, e]; rfl))
    ownF := own_keep h.ownF fun g o (e : u.FA = _) => hg.block g (own_lt2 (by rw [← e]; exact h.ownF)).2.1 (fun e2 => hb.ne_row h.ownF (by decide) (by rw [← e2, e]; rfl))
    rows := h.rows.grown hg (fun j f b' hf hb' e2 => by
      have h1 := congrArg List.length h.modes
      have hk2 : j < ((idsL S).map fun i => (M.F i).2).length := by have := (List.getElem?_eq_some_iff.1 hf).1; simp at h1 ⊢; omega
      exact hb.ne_row (h.rows.row j f _ hf (List.getElem?_eq_getElem hk2)).2 (by decide) (by rw [← e2, hb'])) }
theorem ToldAs.base {M : PW} {base base' : Nat} {w : World} {S : List Node} {u : TV} (h : ToldAs M base w S u) (hb : base' ≤ base) : ToldAs M base' w S u :=
  { h with own := own_base h.own hb, ownF := own_base h.ownF hb, rows := h.rows.base hb }
theorem told_of {M : PW} {w w' : World} {e : Ending} (h : TellRes M w e w') : ∃ S u, e = .returned u.val ∧ ToldAs M w.heap.size w' S u ∧ Below w.heap.size w w' := by
  obtain ⟨S, u, h1, h2, h3, h4, h5, h6, h7, h8, h9, h10, h11, h12⟩ := h
  exact ⟨S, u, h3, ⟨h1, h2, h4, h5, h6, h7, h8, h9, h10, h11⟩, h12⟩
set_option maxRecDepth 100000 in
set_option maxHeartbeats 4000000 in
theorem Do_any (t : TV) (ds : List ByteArray) (c : Cmd) (hop : -9223372036854775808 ≤ c.op ∧ c.op ≤ 9223372036854775807) (SA : Option Addr) (sn sc : Nat) (ss : List SC) (sd : List ByteArray) (w : World) (h : TreeD w t ds) (hS : StockAt w SA sn ss sd) :
    Calls Try.prog 18 #[t.val, .agg c.cells, .slice SA sn sc] w (DoRes (DoE t ds c sd) (doM (openM t ds) c sd) w) := by
  obtain ⟨E, hE⟩ : ∃ E, DoE t ds c sd = E := ⟨_, rfl⟩
  obtain ⟨M', hM'⟩ : ∃ M', doM (openM t ds) c sd = M' := ⟨_, rfl⟩
  rw [hE, hM']
  unfold DoE at hE
  have HM' := Lib.hid hM'; clear hM'
  unfold TV.val Cmd.cells
  have hw3 : Below w.heap.size w (((w.alloc (.cells #[.slice t.NA t.nn t.nc, .slice t.FA t.fn t.fc] 25)).alloc (.cells #[.int .i64 c.op, .string c.path, .string c.dst, .int .i64 c.mode, .int .i64 c.ref] 27)).alloc (.cells #[.slice none 0 0, .slice none 0 0] 25)) := (((Below.refl _ _).alloc (Nat.le_refl _) _).alloc (by simp) _).alloc (by simp; omega) _
  have hT := ((Blk.new w 25 #[.slice t.NA t.nn t.nc, .slice t.FA t.fn t.fc]).alloc (.cells #[.int .i64 c.op, .string c.path, .string c.dst, .int .i64 c.mode, .int .i64 c.ref] 27)).alloc (.cells #[.slice none 0 0, .slice none 0 0] 25)
  have hI := (Blk.new (w.alloc (.cells #[.slice t.NA t.nn t.nc, .slice t.FA t.fn t.fc] 25)) 27 #[.int .i64 c.op, .string c.path, .string c.dst, .int .i64 c.mode, .int .i64 c.ref]).alloc (.cells #[.slice none 0 0, .slice none 0 0] 25)
  have hR := Blk.new ((w.alloc (.cells #[.slice t.NA t.nn t.nc, .slice t.FA t.fn t.fc] 25)).alloc (.cells #[.int .i64 c.op, .string c.path, .string c.dst, .int .i64 c.mode, .int .i64 c.ref] 27)) 25 #[.slice none 0 0, .slice none 0 0]
  simp only [World.size_alloc] at hI hR
  have HTD := Lib.hid (h.keep hw3); have HSt := Lib.hid (hS.keep hw3)
  have HS0 := Lib.hid hS
  clear hS
  have hd0 := hT.cell 0
  have hd1 := hT.cell 1
  by_cases hl : looseE t = 0
  · rw [if_pos hl] at hE
    have hG := (looseP_of hl).good
    have hInv := inv_open (ds := ds) hG h.tree.fl h.dat.len (fun k x d hx hd => (h.dat.at_ k x d hx hd).1)
    have hO := fun w (h : TreeD w t ds) => open_any t ds w h hl
    unfold TV.val at hO
    have hnn := hG.nn
    have hfn := hG.fn
    have hl256 : (openM t ds).nodes.length ≤ 256 := by show t.nodes.length ≤ 256; rw [h.tree.nl]; exact hnn
    obtain ⟨i1, i2, i3⟩ := inv_do hInv hl256 c sd
    rw [HM'.out] at i1 i2 i3
    have HE := Lib.hid hE; have HO := Lib.hid hO; have HInv := Lib.hid hInv; have Hi1 := Lib.hid i1
    have hnx : (openM t ds).next ≤ 256 := by show (t.fn : Int) ≤ 256; omega
    clear hE hO hInv i1 hl hG h
    go_enter Try.func18, Try.ntmps18
    go_upto_region 2 with (go_at_call 38; refine (HO.out _ HTD.out).mono ?_; rintro e w1 ⟨wb, rfl, hWA, hb1⟩)
    simp only [World.size_alloc] at hWA hb1
    have HWA := Lib.hid hWA; clear hWA
    have hT1 := hT.below hb1 (by omega)
    have hI1 := hI.below hb1 (by omega)
    have hR1 := hR.below hb1 (by omega)
    have hs1 := hb1.size
    simp only [World.size_alloc] at hs1
    have hb := hw3.trans (hb1.mono (by omega))
    have hS1 := HSt.out.keep (by simpa using hb1)
    have hSB : Sl w1 (w.heap.size + 1 + 1 + 1) 1 SA sn (ss.flatMap SC.list) ∧ ∀ (k : Nat) (x : SC) (d : ByteArray), ss[k]? = some x → sd[k]? = some d → Sl w1 (w.heap.size + 1 + 1 + 1) 1 x.A x.n (bytesC d) :=
      ⟨(HS0.out.sl.below hb (Nat.le_refl _)).more (by omega), fun k x d hx hd => ((HS0.out.dat k x d hx hd).2.below hb (Nat.le_refl _)).more (by omega)⟩
    have hcall := do_any (w.heap.size + 1 + 1 + 1) wb (openM t ds) 256 c hop SA sn sc ss sd w1 HWA.out HInv.out (by omega) (by omega) (by omega) hS1 hSB
    rw [HE.out, HM'.out] at hcall
    unfold Cmd.cells at hcall
    have Hcall := Lib.hid hcall
    clear hcall hSB hS1 hd0 hd1
    have j0 := hI1.cell 0
    have j1 := hI1.cell 1
    have j2 := hI1.cell 2
    have j3 := hI1.cell 3
    have j4 := hI1.cell 4
    by_cases h0 : E = 0
    · have H0 := Lib.hid h0
      subst h0
      go_upto_region 4 with (go_at_call 39; refine Hcall.out.mono ?_; rintro e w2 ⟨rfl, hw2, hf2⟩)
      have hR2 := hf2.blk hR1 (by decide) (by decide)
      have hb2 := hb.trans (hf2.below.mono (by omega))
      have htell := tell_any (w.heap.size + 1 + 1 + 1) wb M' (256 + 2) w2 hw2 Hi1.out.apart (fun x hx => Hi1.out.file hx) (fun x hx => by have := Hi1.out.lt hx; omega) (fun f hf => by have := (Hi1.out.fbd f hf).2.2.2; omega) (by omega)
      have Htell := Lib.hid htell
      have hs2 := hb2.size
      have hR2l := hR2.lt
      clear htell hw2 hf2
      go_wp2_with (first | (go_at_call 40; refine Htell.out.mono ?_; intro e w3 hT3; obtain ⟨S, u, rfl, hTA, hb3⟩ := told_of hT3; have hR3 := hR2.below hb3 hR2l; unfold TV.val) | (refine wpList_store_blk rfl 25 (.tmp 6) (.tmp 26) rfl hR3 #[.slice u.NA u.nn u.nc, .slice u.FA u.fn u.fc] rfl rfl (show (Try.prog.info? 25).map (·.size) = some 2 by kernel_rfl) rfl (by simp [Value.oneCell']) ?_; intro w4 hB4 hg4 hs4))
      refine ret_cell_t rfl rfl (load_blk hB4 Try.underlying25 rfl (show (Try.prog.info? 25).map (·.size) = some 2 by kernel_rfl)) rfl ?_
      refine ⟨u, rfl, fun h => absurd rfl h, fun _ => ⟨S, (hTA.store hR3 hg4).base (by omega)⟩, ?_⟩
      exact (hb2.trans (hb3.mono (by omega))).trans (below_grown hg4 (by have := hb3.size; omega) (fun g e => by injection e with e; omega))
    · obtain ⟨e1, e2⟩ := ne_b h0
      have H0 := Lib.hid h0; clear h0
      go_upto_region 5 with (go_at_call 39; refine Hcall.out.mono ?_; rintro e w2 ⟨rfl, hw2, hf2⟩)
      have hR2 := hf2.blk hR1 (by decide) (by decide)
      have hb2 := hb.trans (hf2.below.mono (by omega))
      have hs2 := hb2.size
      clear hw2 hf2
      go_wp2_with (refine wpList_store_blk rfl 25 (.tmp 6) (.tmp 23) rfl hR2 #[.slice none 0 0, .slice none 0 0] rfl rfl (show (Try.prog.info? 25).map (·.size) = some 2 by kernel_rfl) rfl (by kernel_rfl) ?_; intro w4 hB4 hg4 hs4)
      refine ret_cell_t rfl rfl (load_blk hB4 Try.underlying25 rfl (show (Try.prog.info? 25).map (·.size) = some 2 by kernel_rfl)) rfl ?_
      exact ⟨zeroTV, rfl, fun _ => rfl, fun h => absurd h H0.out, hb2.trans (below_grown hg4 hs2 (fun g e => by injection e with e; omega))⟩
  · rw [if_neg hl] at hE
    have hO := fun w (h : TreeAt w t) => open_no t w h hl
    rw [hE] at hO hl
    unfold TV.val at hO
    obtain ⟨e1, e2⟩ := ne_b hl
    have HO := Lib.hid hO; have HL := Lib.hid hl; clear hO hl hE h
    go_enter Try.func18, Try.ntmps18
    go_upto_region 5 with (go_at_call 38; refine (HO.out _ HTD.out.tree).mono ?_; rintro e w1 ⟨rfl, hb1⟩)
    simp only [World.size_alloc] at hb1
    have hR2 := hR.below hb1 (by omega)
    have hb2 := hw3.trans (hb1.mono (by omega))
    have hs2 := hb2.size
    go_wp2_with (refine wpList_store_blk rfl 25 (.tmp 6) (.tmp 23) rfl hR2 #[.slice none 0 0, .slice none 0 0] rfl rfl (show (Try.prog.info? 25).map (·.size) = some 2 by kernel_rfl) rfl (by kernel_rfl) ?_; intro w4 hB4 hg4 hs4)
    refine ret_cell_t rfl rfl (load_blk hB4 Try.underlying25 rfl (show (Try.prog.info? 25).map (·.size) = some 2 by kernel_rfl)) rfl ?_
    exact ⟨zeroTV, rfl, fun _ => rfl, fun h => absurd h HL.out, hb2.trans (below_grown hg4 hs2 (fun g e => by injection e with e; omega))⟩
end Go.Proofs.Ythmeffpickejkaa
