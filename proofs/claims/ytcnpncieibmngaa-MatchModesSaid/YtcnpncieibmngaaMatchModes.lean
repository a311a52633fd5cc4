/- MatchModes: modes and directories do not matter. For every two trees and stock. -/
import Derived.Test.YtcnpncieibmngaaPairM
import Derived.Test.YtcnpncieibmngaaCanonP
import Derived.ChangeMaps5
import Derived.Deep.DeepCutAuto
namespace Go.Proofs.Ytcnpncieibmngaa.matchModesDone
open Go.ChangeShapes Go.WideShapes Go.ChangeAt Go.ChangeMaps Go.RowKit Go.Deep

/-- What a match that was not refused says. -/
theorem match_ok {s t : TV} {ds es sd : List ByteArray} (h0 : matchE s t ds es sd = 0) : checkE s = 0 ∧ checkE t = 0 ∧ stockE sd = 0 ∧ ∃ o, upto3 s.nodes t.nodes ds es sd es.length = some o ∧ matchL s t ds es sd = o := by
  unfold matchE at h0
  by_cases c1 : checkE s = 0
  case neg => rw [if_pos c1] at h0; exact absurd h0 c1
  by_cases c2 : checkE t = 0
  case neg => rw [if_neg (by simp [c1]), if_pos c2] at h0; exact absurd h0 c2
  by_cases c3 : stockE sd = 0
  case neg => rw [if_neg (by simp [c1]), if_neg (by simp [c2]), if_pos c3] at h0; exact absurd h0 c3
  rw [if_neg (by simp [c1]), if_neg (by simp [c2]), if_neg (by simp [c3])] at h0
  unfold matchL
  rw [if_neg (by simp [c1]), if_neg (by simp [c2]), if_neg (by simp [c3])]
  cases hu : upto3 s.nodes t.nodes ds es sd es.length with
  | none => rw [hu] at h0; cases h0
  | some o => exact ⟨c1, c2, c3, o, rfl, rfl⟩
theorem match_turn {s t s' t' : TV} {ds es sd : List ByteArray} (h0 : matchE s t ds es sd = 0) (h1 : s'.nodes = s.nodes) (h2 : t'.nodes = t.nodes) (c1 : checkE s' = 0) (c2 : checkE t' = 0) : matchE s' t' ds es sd = 0 ∧ matchL s' t' ds es sd = matchL s t ds es sd := by
  obtain ⟨_, _, c3, o, hup, hL⟩ := match_ok h0
  rw [hL]
  unfold matchE matchL
  rw [if_neg (by simp [c1]), if_neg (by simp [c2]), if_neg (by simp [c3]), if_neg (by simp [c1]), if_neg (by simp [c2]), if_neg (by simp [c3]), h1, h2, hup]
  exact ⟨rfl, rfl⟩
/-- The bits of small numbers stay small. -/
theorem and511 (n : Int) : Go.bits .and .i64 n 511 = n % 512 := by
  have h511 : (BitVec.ofInt 64 511).toNat = 2 ^ 9 - 1 := by decide
  have key : (BitVec.ofInt 64 n &&& BitVec.ofInt 64 511).toNat = (n % ((2 ^ 64 : Nat) : Int)).toNat % 2 ^ 9 := by
    rw [BitVec.toNat_and, BitVec.toNat_ofInt, h511, Nat.and_two_pow_sub_one_eq_mod]
  show IntKind.i64.wrap ((BitVec.ofInt 64 n &&& BitVec.ofInt 64 511).toNat : Nat) = n % 512
  rw [key, IntKind.wrap_i64]
  omega
theorem and_small (x : Int) : okMode (Go.bits .and .i64 x 511) = true := by
  rw [and511]
  unfold okMode
  simp only [decide_eq_true_eq]
  omega
theorem xor_small {x y : Int} (hx : okMode x = true) (hy : okMode y = true) : okMode (Go.bits .xor .i64 x y) = true := by
  unfold okMode at *
  simp only [decide_eq_true_eq] at *
  have k1 : (BitVec.ofInt 64 x).toNat < 2 ^ 9 := by rw [BitVec.toNat_ofInt]; omega
  have k2 : (BitVec.ofInt 64 y).toNat < 2 ^ 9 := by rw [BitVec.toNat_ofInt]; omega
  have key : (BitVec.ofInt 64 x ^^^ BitVec.ofInt 64 y).toNat < 2 ^ 9 := by rw [BitVec.toNat_xor]; exact Nat.xor_lt_two_pow k1 k2
  obtain ⟨q, hq⟩ : ∃ q, (BitVec.ofInt 64 x ^^^ BitVec.ofInt 64 y).toNat = q := ⟨_, rfl⟩
  rw [hq] at key
  have e : Go.bits .xor .i64 x y = IntKind.i64.wrap ((BitVec.ofInt 64 x ^^^ BitVec.ofInt 64 y).toNat : Nat) := rfl
  rw [e, hq, IntKind.wrap_i64]
  omega
/-- While modes are turned: some are new, the others stand. -/
def turnedF (f : Int → Int) (fs : List FC) (k : Nat) : List FC := (fs.take k).map (fun x => { x with mode := f x.mode }) ++ fs.drop k
theorem turnedF_len (f : Int → Int) (fs : List FC) (k : Nat) : (turnedF f fs k).length = fs.length := by
  unfold turnedF
  rw [List.length_append, List.length_map, List.length_take, List.length_drop]
  omega
theorem turnedF_get (f : Int → Int) {fs : List FC} {k : Nat} {x : FC} (h : fs[k]? = some x) : (turnedF f fs k)[k]? = some x := by
  have hl := (List.getElem?_eq_some_iff.1 h).1
  unfold turnedF
  rw [List.getElem?_append_right (by rw [List.length_map, List.length_take]; omega), List.getElem?_drop, List.length_map, List.length_take, ← h]
  congr 1
  omega
theorem turnedF_set (f : Int → Int) {fs : List FC} {k : Nat} {x : FC} (h : fs[k]? = some x) : (turnedF f fs k).set k { x with mode := f x.mode } = turnedF f fs (k + 1) := by
  have hl := (List.getElem?_eq_some_iff.1 h).1
  unfold turnedF
  have hd : fs.drop k = x :: fs.drop (k + 1) := by
    obtain ⟨hi, rfl⟩ := List.getElem?_eq_some_iff.1 h
    exact List.drop_eq_getElem_cons hi
  rw [List.set_append_right _ _ (by rw [List.length_map, List.length_take]; omega), List.length_map, List.length_take, show k - min k fs.length = 0 by omega, hd, List.set_cons_zero, List.take_add_one, h]
  simp
theorem turnedF_all (f : Int → Int) (fs : List FC) {k : Nat} (h : fs.length ≤ k) : turnedF f fs k = fs.map fun x => { x with mode := f x.mode } := by
  unfold turnedF
  rw [List.take_of_length_le h, List.drop_of_length_le h, List.append_nil]
/-- A tree in memory of one's own. -/
structure OwnT (W : World) (base : Nat) (u : TV) (fs : List FC) (ds : List ByteArray) : Prop where
  own : W.ownsRow base 44 3 (.slice u.NA u.nn u.nc) u.nn (u.nodes.flatMap Node.list)
  ownF : W.ownsRow base 47 2 (.slice u.FA u.fn u.fc) u.fn (fs.flatMap FC.list)
  rows : FRows W base fs ds
theorem OwnT.keep {W W' : World} {base : Nat} {u : TV} {fs : List FC} {ds : List ByteArray} (h : OwnT W base u fs ds) (hb : Below W.heap.size W W') : OwnT W' base u fs ds :=
  ⟨own_keep h.own fun g o e => hb.block g (own_lt2 (by rw [← e]; exact h.own)).2.1, own_keep h.ownF fun g o e => hb.block g (own_lt2 (by rw [← e]; exact h.ownF)).2.1, h.rows.keep hb.size fun k f b hf hbb => hb.block b (h.rows.low k f b hf hbb)⟩
theorem OwnT.grown {W W' : World} {base g : Nat} {u : TV} {fs : List FC} {ds : List ByteArray} {ty : TypeId} {cs : Array Value} (h : OwnT W base u fs ds) (hl : fs.length ≤ ds.length) (hg : W.grownBy W' (some g)) (hB : Blk W g ty cs) (h1 : ty ≠ 44) (h2 : ty ≠ 47) (h3 : ty ≠ 5) : OwnT W' base u fs ds :=
  ⟨own_keep h.own fun q o e => hg.block q (own_lt2 (by rw [← e]; exact h.own)).2.1 (fun e2 => hB.ne_row h.own h1 (by rw [e, ← e2]; rfl)),
   own_keep h.ownF fun q o e => hg.block q (own_lt2 (by rw [← e]; exact h.ownF)).2.1 (fun e2 => hB.ne_row h.ownF h2 (by rw [e, ← e2]; rfl)),
   h.rows.grown hg fun k f b hf hb e2 => by
    have hk : k < ds.length := by have := (List.getElem?_eq_some_iff.1 hf).1; omega
    exact hB.ne_row (h.rows.row k f _ hf (List.getElem?_eq_getElem hk)).2 h3 (by rw [hb, e2])⟩
/-- A mode that is turned. -/
theorem OwnT.mode {W : World} {base g k : Nat} {u : TV} {fs : List FC} {ds : List ByteArray} {x : FC} (h : OwnT W base u fs ds) (hl : fs.length ≤ ds.length) (hA : u.FA = some ⟨g, 0, none⟩) (hx : fs[k]? = some x) (m : Int) : OwnT (W.setCell ⟨g, k * 2, none⟩ (.int .i64 m)) base u (fs.set k { x with mode := m }) ds := by
  have hF := h.ownF
  rw [hA] at hF
  have hF2 := setc_own (i := k * 2) hF (.int .i64 m)
  rw [show k * 2 = k * 2 + 0 from rfl, flat_setj FC.len hx (j := 0) (x' := { x with mode := m }) (by omega) rfl] at hF2
  have e : ∀ (i : Nat) (y : FC), (fs.set k { x with mode := m })[i]? = some y → ∃ z, fs[i]? = some z ∧ y.A = z.A ∧ y.n = z.n ∧ y.c = z.c := fun i y hy => by
    by_cases hi : i = k
    · subst hi
      have hl := (List.getElem?_eq_some_iff.1 hx).1
      rw [List.getElem?_set_self hl] at hy
      injection hy with hy
      subst hy
      exact ⟨x, hx, rfl, rfl, rfl⟩
    · rw [List.getElem?_set_ne (fun h => hi h.symm)] at hy
      exact ⟨y, hy, rfl, rfl, rfl⟩
  have hr : FRows (W.setCell ⟨g, k * 2, none⟩ (.int .i64 m)) base fs ds := h.rows.keep (by simp [World.setCell]) fun i f b hf hb => heap_setCell_other W ⟨g, k * 2, none⟩ b _ (fun e2 => h.rows.not_row hl hF (by decide) i f b hf hb (by rw [e2]; rfl))
  refine ⟨own_keep h.own fun q o e2 => heap_setCell_other W ⟨g, k * 2, none⟩ q _ (fun e3 => row_ne_row h.own hF (by decide) (b := q) (by rw [e2]; rfl) (by rw [e3]; rfl)), by rw [hA]; exact hF2, ⟨fun i f d hf hd => ?_, fun i j f f' hf hf' hij b hb => ?_, fun i f b hf hb => ?_⟩⟩
  · obtain ⟨z, hz, e1, e2, e3⟩ := e i f hf
    rw [e1, e2, e3]
    exact hr.row i z d hz hd
  · obtain ⟨z, hz, e1, _, _⟩ := e i f hf
    obtain ⟨z', hz', e1', _, _⟩ := e j f' hf'
    rw [e1'] ; rw [e1] at hb
    exact hr.apart i j z z' hz hz' hij b hb
  · obtain ⟨z, hz, e1, _, _⟩ := e i f hf
    rw [e1] at hb
    exact hr.low i z b hz hb
/-- Another tree of one's own stays. -/
theorem OwnT.other {W : World} {B g i : Nat} {u : TV} {fs : List FC} {ds : List ByteArray} (h : OwnT W B u fs ds) (hl : fs.length ≤ ds.length) {base' n' c' : Nat} {L' : List Value} (h' : W.ownsRow base' 47 2 (.slice (some ⟨g, 0, none⟩) n' c') n' L') (hne : ∀ q, blkOf u.FA = some q → q ≠ g) (v : Value) : OwnT (W.setCell ⟨g, i, none⟩ v) B u fs ds :=
  ⟨own_keep h.own fun q o e2 => heap_setCell_other W ⟨g, i, none⟩ q _ (fun e3 => row_ne_row h.own h' (by decide) (b := q) (by rw [e2]; rfl) (by rw [e3]; rfl)),
   own_keep h.ownF fun q o e2 => heap_setCell_other W ⟨g, i, none⟩ q _ (fun e3 => hne q (by rw [e2]; rfl) e3),
   h.rows.keep (by simp [World.setCell]) fun j f b hf hb => heap_setCell_other W ⟨g, i, none⟩ b _ (fun e2 => h.rows.not_row hl h' (by decide) j f b hf hb (by rw [e2]; rfl))⟩
theorem _root_.Go.Proofs.Ytcnpncieibmngaa.FRows.lower {w : World} {base base' : Nat} {fs : List FC} {ds : List ByteArray} (h : FRows w base fs ds) (hb : base' ≤ base) : FRows w base' fs ds := ⟨fun k f d hf hd => ⟨(h.row k f d hf hd).1, own_low (h.row k f d hf hd).2 hb⟩, h.apart, h.low⟩
theorem OwnT.drew {W : World} {B : Nat} {u : TV} {fs : List FC} {ds : List ByteArray} (h : OwnT W B u fs ds) : OwnT W.drew B u fs ds := ⟨h.own, h.ownF, ⟨fun k f d hf hd => h.rows.row k f d hf hd, h.rows.apart, h.rows.low⟩⟩
/-- The tree that a copy has become. -/
theorem OwnT.tree {W : World} {B : Nat} {u : TV} {fs : List FC} {ds : List ByteArray} (h : OwnT W B u fs ds) (hn : u.nodes.length = u.nn) (hf : fs.length = u.fn) (hd : ds.length = fs.length) : TreeD W ⟨u.nodes, fs, u.NA, u.nn, u.nc, u.FA, u.fn, u.fc⟩ ds := by
  have hm : ∀ {e sz n c : Nat} {A : Option Addr} {L : List Value}, W.ownsRow B e sz (.slice A n c) n L → n ≤ 9223372036854775807 := fun {e sz n c A L} h => by
    rcases h.2 with ⟨_, h0⟩ | ⟨g, cap, cur, hv, hg, hh, hnc, hcm, hcs, ht⟩
    · omega
    · unfold maxLen at hcm; omega
  exact ⟨⟨hn, hf, Sl.of_own h.own, Sl.of_own h.ownF, hm h.own, hm h.ownF⟩, ⟨hd, fun k x d hx hd' => ⟨(h.rows.row k x d hx hd').1.symm, Sl.of_own (h.rows.row k x d hx hd').2⟩⟩⟩
theorem own_hi {w : World} {base e sz n c g : Nat} {A : Option Addr} {L : List Value} (h : w.ownsRow base e sz (.slice A n c) n L) (hb : blkOf A = some g) : g < w.heap.size := by
  rcases A with _ | ⟨b', o, s⟩
  · cases hb
  · simp only [blkOf, Option.some.injEq] at hb
    subst hb
    exact (own_lt2 h).2.1
theorem dat_sizes {W : World} {v : TV} {ds : List ByteArray} (h : TreeD W v ds) : v.files.map (·.n) = ds.map (·.size) := by
  apply List.ext_getElem?
  intro i
  rw [List.getElem?_map, List.getElem?_map]
  cases hx : v.files[i]? with
  | none =>
    have : ds[i]? = none := by rw [List.getElem?_eq_none_iff] at hx ⊢; rw [h.dat.len]; exact hx
    rw [this]; rfl
  | some x =>
    obtain ⟨d, hd, hs, _⟩ := h.dat.get hx
    rw [hd]; simp [hs]
theorem turned_ok {f : Int → Int} {fs gs : List FC} (h : fs.map (·.mode) = gs.map (·.mode)) (hg : ∀ x ∈ gs, okMode x.mode = true) (hf : ∀ m, okMode m = true → okMode (f m) = true) : ∀ x ∈ fs.map (fun x : FC => { x with mode := f x.mode }), okMode x.mode = true := fun x hx => by
  obtain ⟨y, hy, rfl⟩ := List.mem_map.1 hx
  have h1 : y.mode ∈ gs.map (·.mode) := by rw [← h]; exact List.mem_map.2 ⟨y, hy, rfl⟩
  obtain ⟨z, hz, e⟩ := List.mem_map.1 h1
  refine hf _ ?_
  rw [← e]
  exact hg z hz
/-- A copy of a tree. -/
structure CopyF (u t : TV) : Prop where
  nodes : u.nodes = t.nodes
  nn : u.nn = t.nn
  fn : u.fn = t.fn
  fl : u.files.length = t.fn
  modes : u.files.map (·.mode) = t.files.map (·.mode)
/-- Both copies, and the variable that holds them. -/
structure BothAt (W0 wx : World) (gy B : Nat) (uS uT : TV) (fs gs : List FC) (ds es : List ByteArray) : Prop where
  blk : Blk wx gy 38 #[.slice uS.NA uS.nn uS.nc, .slice uS.FA uS.fn uS.fc, .slice uT.NA uT.nn uT.nc, .slice uT.FA uT.fn uT.fc, .slice none 0 0]
  new : W0.heap.size ≤ gy
  s : OwnT wx W0.heap.size uS fs ds
  t : OwnT wx B uT gs es
  base : W0.heap.size ≤ B
  apart : ∀ g, blkOf uS.FA = some g → g < B
  below : Below W0.heap.size W0 wx
def Copied (W0 : World) (s t : TV) (ds es : List ByteArray) (p : Value) (wx : World) : Prop :=
  ∃ (gy B : Nat) (uS uT : TV), p = .pointer (some ⟨gy, 0, none⟩) ∧ CopyF uS s ∧ CopyF uT t ∧ BothAt W0 wx gy B uS uT uS.files uT.files ds es
set_option maxRecDepth 100000 in
set_option maxHeartbeats 8000000 in
theorem walk (s : TV) (ds : List ByteArray) (t : TV) (es : List ByteArray) (SA : Option Addr) (sn sc : Nat) (ss : List SC) (sd : List ByteArray) (by_ : Int) (w : World) (hs : TreeD w s ds) (ht : TreeD w t es) (hS : StockAt w SA sn ss sd) (_hw : (Lit.int .i64 by_).wf = true) :
    Calls Try.prog 5 #[pairVal s t SA sn sc, .int .i64 by_] w fun e w' => e = .returned (.bool true) ∧ Below w.heap.size w w' := by
  have hmat := fun W (h1 : TreeD W s ds) (h2 : TreeD W t es) (h3 : StockAt W SA sn ss sd) => match_any s t ds es SA sn sc ss sd W h1 h2 h3
  have hmuch := fun W (h1 : TreeAt W s) (h2 : TreeAt W t) (h3 : StockAt W SA sn ss sd) => much11_any s t SA sn sc ss sd W h1 h2 h3
  have hok := @match_ok s t ds es sd
  have hturn := @match_turn s t
  have hds : ds.length = s.fn := hs.dat.len.trans hs.tree.fl
  have hes : es.length = t.fn := ht.dat.len.trans ht.tree.fl
  obtain ⟨M, hMe⟩ : ∃ M, matchE s t ds es sd = M := ⟨_, rfl⟩
  obtain ⟨L, hL⟩ : ∃ L, matchL s t ds es sd = L := ⟨_, rfl⟩
  rw [hMe, hL] at hmat
  rw [hMe, hL] at hok
  have hturn2 : ∀ s' t' : TV, M = 0 → s'.nodes = s.nodes → t'.nodes = t.nodes → checkE s' = 0 → checkE t' = 0 → matchE s' t' ds es sd = 0 ∧ matchL s' t' ds es sd = L := fun s' t' h0 h1 h2 h3 h4 => by
    rw [← hL]; exact hturn (by rw [hMe]; exact h0) h1 h2 h3 h4
  have HOk := Lib.hid hok; have HDs := Lib.hid hds; have HEs := Lib.hid hes; have HTurn := Lib.hid hturn2
  clear hMe hL hok hds hes hturn hturn2
  have HMat := Lib.hid hmat; have HMuch := Lib.hid hmuch
  have HS := Lib.hid hs; have HT := Lib.hid ht; have HK := Lib.hid hS
  clear hmat hmuch hs ht hS
  unfold pairVal at HMuch ⊢
  have hB := Blk.new w 38 #[.slice s.NA s.nn s.nc, .slice s.FA s.fn s.fc, .slice t.NA t.nn t.nc, .slice t.FA t.fn t.fc, .slice SA sn sc]
  have hb := (Below.refl w.heap.size w).alloc (Nat.le_refl _) (.cells #[.slice s.NA s.nn s.nc, .slice s.FA s.fn s.fc, .slice t.NA t.nn t.nc, .slice t.FA t.fn t.fc, .slice SA sn sc] 38)
  unfold TV.val at HMat
  go_enter Try.func5, Try.ntmps5
  go_upto_region 3 with (first | (go_at_call 9; refine (alive11 _).mono ?_; rintro e w1 ⟨rfl, hb1⟩; replace hB := hB.below hb1 hB.lt; replace hb := hb.trans (hb1.mono hb.size); have b0 := hB.cell 0; have b1 := hB.cell 1; have b2 := hB.cell 2; have b3 := hB.cell 3; have b4 := hB.cell 4) | (go_at_call 14; refine (HMuch.out _ (HS.out.tree.keep hb) (HT.out.tree.keep hb) (HK.out.keep hb)).mono ?_; rintro e w2 ⟨x, rfl, hx, hb2⟩; replace hB := hB.below hb2 hB.lt; replace hb := hb.trans (hb2.mono hb.size); clear b0 b1 b2 b3 b4; have b0 := hB.cell 0; have b1 := hB.cell 1; have b2 := hB.cell 2; have b3 := hB.cell 3; have b4 := hB.cell 4))
  cases x with
  | true =>
    go_wp2
    go_ret
    exact ⟨rfl, hb⟩
  | false =>
    clear hx hb1 hb2
    go_upto_region 6 with (go_at_call 12; refine (HMat.out _ (HS.out.keep hb) (HT.out.keep hb) (HK.out.keep hb)).mono ?_; rintro e w4 ⟨A, n, c, rfl, hn, hR, hb4⟩; replace hB := hB.below hb4 hB.lt; replace hb := hb.trans (hb4.mono hb.size))
    clear b0 b1 b2 b3 b4
    by_cases hM0 : M = 0
    case neg =>
      have hne := bne_iff_ne.2 hM0
      have H0 := Lib.hid hM0; clear hM0
      go_wp2_with (go_at_call 13; refine (num11 _ _).mono ?_; rintro e w8 ⟨rfl, hw⟩; rw [hw]; clear hw)
      go_ret
      exact ⟨rfl, hb⟩
    obtain ⟨c1, c2, c3, o, hup, hLo⟩ := HOk.out hM0
    have gs := good_of_loose (check_loose c1)
    have gt := good_of_loose (check_loose c2)
    have hfn := gs.fn; have htn := gt.fn; have hnn := gs.nn; have htnn := gt.nn
    have hturn := fun s' t' => HTurn.out s' t' hM0
    have HTn := Lib.hid hturn
    have hln := upto3_len _ _ _ _ _ _ _ hup
    rw [← hLo] at hln
    have HLn := Lib.hid hln
    subst hM0
    have Gs := Lib.hid gs; have Gt := Lib.hid gt; have HR := Lib.hid hR; have Hn := Lib.hid hn; have C1 := Lib.hid c1; have C2 := Lib.hid c2
    clear gs gt hR hn c1 c2 c3 hup hLo HOk HMat HMuch hb4 HTurn hturn hln
    obtain ⟨W0, hW0⟩ : ∃ W0, W0 = w4 := ⟨_, rfl⟩
    rw [← hW0] at hB hb HR ⊢
    clear hW0
    have hBl := hB.lt
    have b0 := hB.cell 0; have b1 := hB.cell 1; have b2 := hB.cell 2; have b3 := hB.cell 3
    have hcs := fun W (h : TreeD W s ds) => copy_any s ds W h (by omega) (by omega) (fun x hx => Nat.le_trans (Gs.out.small x hx) (by omega))
    have hct := fun W (h : TreeD W t es) => copy_any t es W h (by omega) (by omega) (fun x hx => Nat.le_trans (Gt.out.small x hx) (by omega))
    unfold TV.val at hcs hct
    have HCs := Lib.hid hcs; have HCt := Lib.hid hct; have Hb := Lib.hid hb
    clear hcs hct
    go_upto_region 8 with (go_at_call 13; refine (num11 _ _).mono ?_; rintro e w8 ⟨rfl, hw⟩; rw [hw]; clear hw)
    go_cut [9] from 36 to 42 (fun p wx => Copied W0 s t ds es p wx)
    case first =>
      refine wp_region_T none (.q 0 (.q 1 (.q 3 (.q 4 (.e2 2 7 (.e2 5 7 (.q 6 (.e1 7 (.e1 8 .done))) (.e1 5 (.q 6 (.e1 8 .done)))) (.e1 2 (.e1 5 (.q 6 (.e1 8 .done))))))))) (by kernel_rfl) (by kernel_rfl) fun hG0 => ?_
      repeat (first
        | (refine tree_skip rfl (by rfl) ?_; simp only [Act.put, List.setIfInBounds_toArray, List.set_cons_zero, List.set_cons_succ])
        | (refine tree_qE rfl (by rfl) ?_; apply Exists.intro; refine ⟨fun w' hc' => ?_, ?_⟩; (focus (go_simp; (try go_bits); (try simp only [↓IntWalk.iteOmega]); with_reducible rfl)); simp only [Act.put, List.setIfInBounds_toArray, List.set_cons_zero, List.set_cons_succ]))
      refine tree_e2 (tree_step rfl fun K hK => ?_) (tree_step rfl fun K hK => ?_)
      · have hBc := below_grown hG0 (Nat.le_refl _) (fun g e => by cases e)
        go_wp2_with (go_at_call 17; refine (HCs.out _ (HS.out.keep (Hb.out.trans (hBc.mono Hb.out.size)))).mono ?_; rintro e w2 ⟨⟨un, uf, uNA, unn, unc, uFA, ufn, ufc⟩, rfl, e1, e2, e3, e4, e5, e6, e7, e8, hb2⟩; have HOS := Lib.hid (show OwnT w2 W0.heap.size ⟨un, uf, uNA, unn, unc, uFA, ufn, ufc⟩ uf ds from ⟨own_low e6 hBc.size, own_low e7 hBc.size, e8.lower hBc.size⟩); have HCF := Lib.hid (show CopyF ⟨un, uf, uNA, unn, unc, uFA, ufn, ufc⟩ s from ⟨e1, e2, e3, e4, e5⟩); clear e1 e2 e3 e4 e5 e6 e7 e8; unfold TV.val)
        have hG1 := grown_trans hG0 (grown_below hb2 (Nat.le_refl _))
        refine hK.out _ _ hG1 ?_
        clear hK K hBc
        refine tree_e2 (tree_step rfl fun K hK => ?_) (tree_step rfl fun K hK => ?_)
        · have hBc := below_grown hG1 (Nat.le_refl _) (fun g e => by cases e)
          go_wp2_with (go_at_call 17; refine (HCt.out _ (HT.out.keep (Hb.out.trans (hBc.mono Hb.out.size)))).mono ?_; rintro e w5 ⟨⟨vn, vf, vNA, vnn, vnc, vFA, vfn, vfc⟩, rfl, e1, e2, e3, e4, e5, e6, e7, e8, hb5⟩; have HOT := Lib.hid (show OwnT w5 w2.heap.size ⟨vn, vf, vNA, vnn, vnc, vFA, vfn, vfc⟩ vf es from ⟨own_low e6 (by first | exact Nat.le_refl _ | simp), own_low e7 (by first | exact Nat.le_refl _ | simp), e8.lower (by first | exact Nat.le_refl _ | simp)⟩); have HCG := Lib.hid (show CopyF ⟨vn, vf, vNA, vnn, vnc, vFA, vfn, vfc⟩ t from ⟨e1, e2, e3, e4, e5⟩); clear e1 e2 e3 e4 e5 e6 e7 e8; have HOS5 := Lib.hid (show OwnT w5 W0.heap.size ⟨un, uf, uNA, unn, unc, uFA, ufn, ufc⟩ uf ds from (by first | exact HOS.out.keep hb5 | exact (HOS.out.keep ((Below.refl _ _).alloc (Nat.le_refl _) _)).keep hb5)); unfold TV.val)
          have hG2 := grown_trans hG1 (grown_below hb5 (Nat.le_refl _))
          refine hK.out _ _ hG2 ?_
          clear hK K hBc
          repeat (first
            | (refine tree_skip rfl (by rfl) ?_; simp only [Act.put, List.setIfInBounds_toArray, List.set_cons_zero, List.set_cons_succ])
            | (refine tree_qE rfl (by rfl) ?_; apply Exists.intro; refine ⟨fun w' hc' => ?_, ?_⟩; (focus (go_simp; (try go_bits); (try simp only [↓IntWalk.iteOmega]); with_reducible rfl)); simp only [Act.put, List.setIfInBounds_toArray, List.set_cons_zero, List.set_cons_succ]))
          refine tree_e1 (tree_step rfl fun K hK => ?_)
          have hZ : Blk (World.alloc (w5) (.cells #[.slice none 0 0, .slice none 0 0, .slice none 0 0, .slice none 0 0, .slice none 0 0] 38)) (w5.heap.size) 38 #[.slice none 0 0, .slice none 0 0, .slice none 0 0, .slice none 0 0, .slice none 0 0] := Blk.new (w5) 38 #[.slice none 0 0, .slice none 0 0, .slice none 0 0, .slice none 0 0, .slice none 0 0]
          have hzs : W0.heap.size ≤ w5.heap.size := by first | exact Nat.le_refl _ | exact hG2.size
          go_wp2_with (fail)
          have hG3 := grown_trans hG2 (World.grownBy_alloc (w5) (.cells #[.slice none 0 0, .slice none 0 0, .slice none 0 0, .slice none 0 0, .slice none 0 0] 38) none)
          refine hK.out _ _ hG3 ?_
          clear hK K
          refine tree_e1 (tree_step rfl fun K hK => ?_)
          go_wp2_with (fail)
          have hG4 := grown_trans hG2 (World.grownBy_alloc (w5) (.cells #[.slice uNA unn unc, .slice uFA ufn ufc, .slice vNA vnn vnc, .slice vFA vfn vfc, .slice none 0 0] 38) none)
          have hB9 := Blk.new (w5) 38 #[.slice uNA unn unc, .slice uFA ufn ufc, .slice vNA vnn vnc, .slice vFA vfn vfc, .slice none 0 0]
          refine hK.out _ _ hG4 ?_
          clear hK K
          refine tree_end ?_
          have hGL := hG4
          go_wp2_with (fail)
          go_meet
          refine ⟨_, w2.heap.size, ⟨un, uf, uNA, unn, unc, uFA, ufn, ufc⟩, ⟨vn, vf, vNA, vnn, vnc, vFA, vfn, vfc⟩, rfl, HCF.out, HCG.out, ⟨hB9, by first | exact hzs | (have h1 := hb2.size; have h2 := hb5.size; simp at h1 h2; omega), by first | exact HOS5.out.keep ((Below.refl _ _).alloc (Nat.le_refl _) _) | exact HOS5.out.grown (Nat.le_of_eq (HCF.out.fl.trans HDs.out.symm)) hg9 hZ (by decide) (by decide) (by decide), by first | exact HOT.out.keep ((Below.refl _ _).alloc (Nat.le_refl _) _) | exact HOT.out.grown (Nat.le_of_eq (HCG.out.fl.trans HEs.out.symm)) hg9 hZ (by decide) (by decide) (by decide), by have h1 := hb2.size; simp at h1; omega, fun g e => own_hi HOS.out.ownF e, below_grown hGL (Nat.le_refl _) (fun g e => by cases e)⟩⟩
        · have hZ : Blk (World.alloc (w2) (.cells #[.slice none 0 0, .slice none 0 0, .slice none 0 0, .slice none 0 0, .slice none 0 0] 38)) (w2.heap.size) 38 #[.slice none 0 0, .slice none 0 0, .slice none 0 0, .slice none 0 0, .slice none 0 0] := Blk.new (w2) 38 #[.slice none 0 0, .slice none 0 0, .slice none 0 0, .slice none 0 0, .slice none 0 0]
          have hzs : W0.heap.size ≤ w2.heap.size := by first | exact Nat.le_refl _ | exact hG1.size
          go_wp2_with (fail)
          have hG2 := grown_trans hG1 (World.grownBy_alloc (w2) (.cells #[.slice none 0 0, .slice none 0 0, .slice none 0 0, .slice none 0 0, .slice none 0 0] 38) none)
          refine hK.out _ _ hG2 ?_
          clear hK K
          refine tree_e1 (tree_step rfl fun K hK => ?_)
          have hBc := below_grown hG2 (Nat.le_refl _) (fun g e => by cases e)
          go_wp2_with (go_at_call 17; refine (HCt.out _ (HT.out.keep (Hb.out.trans (hBc.mono Hb.out.size)))).mono ?_; rintro e w5 ⟨⟨vn, vf, vNA, vnn, vnc, vFA, vfn, vfc⟩, rfl, e1, e2, e3, e4, e5, e6, e7, e8, hb5⟩; have HOT := Lib.hid (show OwnT w5 w2.heap.size ⟨vn, vf, vNA, vnn, vnc, vFA, vfn, vfc⟩ vf es from ⟨own_low e6 (by first | exact Nat.le_refl _ | simp), own_low e7 (by first | exact Nat.le_refl _ | simp), e8.lower (by first | exact Nat.le_refl _ | simp)⟩); have HCG := Lib.hid (show CopyF ⟨vn, vf, vNA, vnn, vnc, vFA, vfn, vfc⟩ t from ⟨e1, e2, e3, e4, e5⟩); clear e1 e2 e3 e4 e5 e6 e7 e8; have HOS5 := Lib.hid (show OwnT w5 W0.heap.size ⟨un, uf, uNA, unn, unc, uFA, ufn, ufc⟩ uf ds from (by first | exact HOS.out.keep hb5 | exact (HOS.out.keep ((Below.refl _ _).alloc (Nat.le_refl _) _)).keep hb5)); unfold TV.val)
          have hG3 := grown_trans hG2 (grown_below hb5 (Nat.le_refl _))
          refine hK.out _ _ hG3 ?_
          clear hK K hBc
          replace hZ := hZ.below hb5 hZ.lt
          repeat (first
            | (refine tree_skip rfl (by rfl) ?_; simp only [Act.put, List.setIfInBounds_toArray, List.set_cons_zero, List.set_cons_succ])
            | (refine tree_qE rfl (by rfl) ?_; apply Exists.intro; refine ⟨fun w' hc' => ?_, ?_⟩; (focus (go_simp; (try go_bits); (try simp only [↓IntWalk.iteOmega]); with_reducible rfl)); simp only [Act.put, List.setIfInBounds_toArray, List.set_cons_zero, List.set_cons_succ]))
          refine tree_e1 (tree_step rfl fun K hK => ?_)
          go_wp2_with (refine wpList_store_blk rfl 38 (.tmp 9) (.tmp 42) rfl hZ #[.slice uNA unn unc, .slice uFA ufn ufc, .slice vNA vnn vnc, .slice vFA vfn vfc, .slice none 0 0] rfl rfl (by kernel_rfl) rfl (by simp [Value.oneCell']) ?_; intro w9 hB9 hg9 hs9)
          have hG4 : W0.grownBy w9 none := grown_below ((below_grown hG3 (Nat.le_refl _) (fun g e => by cases e)).trans (below_grown hg9 hG3.size (fun g e => by injection e with e; omega))) (Nat.le_refl _)
          refine hK.out _ _ hG4 ?_
          clear hK K
          refine tree_end ?_
          have hGL := hG4
          go_wp2_with (fail)
          go_meet
          refine ⟨_, w2.heap.size, ⟨un, uf, uNA, unn, unc, uFA, ufn, ufc⟩, ⟨vn, vf, vNA, vnn, vnc, vFA, vfn, vfc⟩, rfl, HCF.out, HCG.out, ⟨hB9, by first | exact hzs | (have h1 := hb2.size; have h2 := hb5.size; simp at h1 h2; omega), by first | exact HOS5.out.keep ((Below.refl _ _).alloc (Nat.le_refl _) _) | exact HOS5.out.grown (Nat.le_of_eq (HCF.out.fl.trans HDs.out.symm)) hg9 hZ (by decide) (by decide) (by decide), by first | exact HOT.out.keep ((Below.refl _ _).alloc (Nat.le_refl _) _) | exact HOT.out.grown (Nat.le_of_eq (HCG.out.fl.trans HEs.out.symm)) hg9 hZ (by decide) (by decide) (by decide), by have h1 := hb2.size; simp at h1; omega, fun g e => own_hi HOS.out.ownF e, below_grown hGL (Nat.le_refl _) (fun g e => by cases e)⟩⟩
      · have hZ : Blk (World.alloc (W0.drew) (.cells #[.slice none 0 0, .slice none 0 0, .slice none 0 0, .slice none 0 0, .slice none 0 0] 38)) (W0.heap.size) 38 #[.slice none 0 0, .slice none 0 0, .slice none 0 0, .slice none 0 0, .slice none 0 0] := Blk.new (W0.drew) 38 #[.slice none 0 0, .slice none 0 0, .slice none 0 0, .slice none 0 0, .slice none 0 0]
        have hzs : W0.heap.size ≤ W0.heap.size := by first | exact Nat.le_refl _ | exact hG0.size
        go_wp2_with (fail)
        have hG1 := grown_trans hG0 (World.grownBy_alloc (W0.drew) (.cells #[.slice none 0 0, .slice none 0 0, .slice none 0 0, .slice none 0 0, .slice none 0 0] 38) none)
        refine hK.out _ _ hG1 ?_
        clear hK K
        refine tree_e1 (tree_step rfl fun K hK => ?_)
        have hBc := below_grown hG1 (Nat.le_refl _) (fun g e => by cases e)
        go_wp2_with (go_at_call 17; refine (HCs.out _ (HS.out.keep (Hb.out.trans (hBc.mono Hb.out.size)))).mono ?_; rintro e w2 ⟨⟨un, uf, uNA, unn, unc, uFA, ufn, ufc⟩, rfl, e1, e2, e3, e4, e5, e6, e7, e8, hb2⟩; have HOS := Lib.hid (show OwnT w2 W0.heap.size ⟨un, uf, uNA, unn, unc, uFA, ufn, ufc⟩ uf ds from ⟨own_low e6 hBc.size, own_low e7 hBc.size, e8.lower hBc.size⟩); have HCF := Lib.hid (show CopyF ⟨un, uf, uNA, unn, unc, uFA, ufn, ufc⟩ s from ⟨e1, e2, e3, e4, e5⟩); clear e1 e2 e3 e4 e5 e6 e7 e8; unfold TV.val)
        have hG2 := grown_trans hG1 (grown_below hb2 (Nat.le_refl _))
        refine hK.out _ _ hG2 ?_
        clear hK K hBc
        replace hZ := hZ.below hb2 hZ.lt
        refine tree_e1 (tree_step rfl fun K hK => ?_)
        have hBc := below_grown hG2 (Nat.le_refl _) (fun g e => by cases e)
        go_wp2_with (go_at_call 17; refine (HCt.out _ (HT.out.keep (Hb.out.trans (hBc.mono Hb.out.size)))).mono ?_; rintro e w5 ⟨⟨vn, vf, vNA, vnn, vnc, vFA, vfn, vfc⟩, rfl, e1, e2, e3, e4, e5, e6, e7, e8, hb5⟩; have HOT := Lib.hid (show OwnT w5 w2.heap.size ⟨vn, vf, vNA, vnn, vnc, vFA, vfn, vfc⟩ vf es from ⟨own_low e6 (by first | exact Nat.le_refl _ | simp), own_low e7 (by first | exact Nat.le_refl _ | simp), e8.lower (by first | exact Nat.le_refl _ | simp)⟩); have HCG := Lib.hid (show CopyF ⟨vn, vf, vNA, vnn, vnc, vFA, vfn, vfc⟩ t from ⟨e1, e2, e3, e4, e5⟩); clear e1 e2 e3 e4 e5 e6 e7 e8; have HOS5 := Lib.hid (show OwnT w5 W0.heap.size ⟨un, uf, uNA, unn, unc, uFA, ufn, ufc⟩ uf ds from (by first | exact HOS.out.keep hb5 | exact (HOS.out.keep ((Below.refl _ _).alloc (Nat.le_refl _) _)).keep hb5)); unfold TV.val)
        have hG3 := grown_trans hG2 (grown_below hb5 (Nat.le_refl _))
        refine hK.out _ _ hG3 ?_
        clear hK K hBc
        replace hZ := hZ.below hb5 hZ.lt
        repeat (first
          | (refine tree_skip rfl (by rfl) ?_; simp only [Act.put, List.setIfInBounds_toArray, List.set_cons_zero, List.set_cons_succ])
          | (refine tree_qE rfl (by rfl) ?_; apply Exists.intro; refine ⟨fun w' hc' => ?_, ?_⟩; (focus (go_simp; (try go_bits); (try simp only [↓IntWalk.iteOmega]); with_reducible rfl)); simp only [Act.put, List.setIfInBounds_toArray, List.set_cons_zero, List.set_cons_succ]))
        refine tree_e1 (tree_step rfl fun K hK => ?_)
        go_wp2_with (refine wpList_store_blk rfl 38 (.tmp 9) (.tmp 42) rfl hZ #[.slice uNA unn unc, .slice uFA ufn ufc, .slice vNA vnn vnc, .slice vFA vfn vfc, .slice none 0 0] rfl rfl (by kernel_rfl) rfl (by simp [Value.oneCell']) ?_; intro w9 hB9 hg9 hs9)
        have hG4 : W0.grownBy w9 none := grown_below ((below_grown hG3 (Nat.le_refl _) (fun g e => by cases e)).trans (below_grown hg9 hG3.size (fun g e => by injection e with e; omega))) (Nat.le_refl _)
        refine hK.out _ _ hG4 ?_
        clear hK K
        refine tree_end ?_
        have hGL := hG4
        go_wp2_with (fail)
        go_meet
        refine ⟨_, w2.heap.size, ⟨un, uf, uNA, unn, unc, uFA, ufn, ufc⟩, ⟨vn, vf, vNA, vnn, vnc, vFA, vfn, vfc⟩, rfl, HCF.out, HCG.out, ⟨hB9, by first | exact hzs | (have h1 := hb2.size; have h2 := hb5.size; simp at h1 h2; omega), by first | exact HOS5.out.keep ((Below.refl _ _).alloc (Nat.le_refl _) _) | exact HOS5.out.grown (Nat.le_of_eq (HCF.out.fl.trans HDs.out.symm)) hg9 hZ (by decide) (by decide) (by decide), by first | exact HOT.out.keep ((Below.refl _ _).alloc (Nat.le_refl _) _) | exact HOT.out.grown (Nat.le_of_eq (HCG.out.fl.trans HEs.out.symm)) hg9 hZ (by decide) (by decide) (by decide), by have h1 := hb2.size; simp at h1; omega, fun g e => own_hi HOS.out.ownF e, below_grown hGL (Nat.le_refl _) (fun g e => by cases e)⟩⟩
    case rest =>
      obtain ⟨gy, B, uS, uT, rfl, hCF, hCG, hBoth⟩ := hcut
      obtain ⟨W1, hW1⟩ : ∃ W1, W1 = wc := ⟨_, rfl⟩
      rw [← hW1] at hBoth ⊢
      clear hW1 b0 b1 b2 b3 HCs HCt
      have HCF := Lib.hid hCF; have HCG := Lib.hid hCG; have HB0 := Lib.hid hBoth; have HB := Lib.hid hB
      clear hCF hCG hBoth hB hb
      obtain ⟨q5, hq5⟩ : ∃ q, Go.bits .and .i64 by_ 511 = q := ⟨_, rfl⟩
      have hq5m : okMode q5 = true := by rw [← hq5]; exact and_small by_
      have Hq5m := Lib.hid hq5m
      clear hq5m
      obtain ⟨fs, hfs⟩ : ∃ f, uS.files = f := ⟨_, rfl⟩
      obtain ⟨gs, hgs⟩ : ∃ f, uT.files = f := ⟨_, rfl⟩
      rw [hfs, hgs] at HB0
      have hfl : fs.length = s.fn := by rw [← hfs]; exact HCF.out.fl
      have hgl : gs.length = t.fn := by rw [← hgs]; exact HCG.out.fl
      have Hfs := Lib.hid hfs; have Hgs := Lib.hid hgs; have Hfl := Lib.hid hfl; have Hgl := Lib.hid hgl
      have hun := HCF.out.fn; have hvn := HCG.out.fn
      have Hun := Lib.hid hun; have Hvn := Lib.hid hvn
      clear hfs hgs hfl hgl hun hvn
      go_wp2
      go_loopw [10] (fun v wr => ∃ k : Nat, k ≤ s.fn ∧ v = .int .i64 k ∧ BothAt W0 wr gy B uS uT (turnedF (fun m => Go.bits .xor .i64 m q5) fs k) gs ds es) (fun v _ => s.fn - (intOf v).toNat)
      case atStart => exact ⟨0, Nat.zero_le _, rfl, by simpa [turnedF] using HB0.out⟩
      case round =>
        clear HB0
        obtain ⟨k, hk, rfl, hbo⟩ := hrel
        have hU := hbo.blk
        have v0 := hU.cell 0; have v1 := hU.cell 1; have v2 := hU.cell 2; have v3 := hU.cell 3
        have hUl := hU.lt
        rw [Hun.out] at v1
        rw [Hvn.out] at v3
        by_cases hlt : k < s.fn
        · have hki : (k : Int) < s.fn := by omega
          obtain ⟨x, hx0⟩ : ∃ x, fs[k]? = some x := ⟨_, List.getElem?_eq_getElem (by rw [Hfl.out]; exact hlt)⟩
          have hx := turnedF_get (fun m => Go.bits .xor .i64 m q5) hx0
          have hnext := turnedF_set (fun m => Go.bits .xor .i64 m q5) hx0
          have hoF := hbo.s.ownF
          obtain ⟨gF, hFA⟩ := own_some' hoF (by rw [Hun.out]; omega)
          rw [hFA] at v1 hoF
          have y0 := (own_row hoF).1.get FC.len hx (j := 0) (v := .int .i64 x.mode) rfl
          simp only [Nat.zero_add, Nat.add_zero] at y0
          have y0f := own_frozen' hoF (k * 2)
          have hgFl := (own_row hoF).2.2.1
          have hgFb := (own_row hoF).2.1
          have hll : (turnedF (fun m => Go.bits .xor .i64 m q5) fs k).length ≤ ds.length := by rw [turnedF_len, Hfl.out, HDs.out]; exact Nat.le_refl _
          have hgne : gy ≠ gF := fun e => hU.ne_row hoF (by decide) (by rw [e]; rfl)
          obtain ⟨m2, hm2⟩ : ∃ m, Go.bits .xor .i64 x.mode q5 = m := ⟨_, rfl⟩
          have hs8 := hbo.s.mode hll hFA hx m2
          have ht8 := hbo.t.other (i := k * 2) (g := gF) (by rw [Hgl.out, HEs.out]; exact Nat.le_refl _) hoF (fun q hq e => by
            have h1 := own_blk1 hbo.t.ownF q hq
            have h2 := hbo.apart gF (by rw [hFA]; rfl)
            omega) (.int .i64 m2)
          rw [← hm2, hnext] at hs8
          rw [hm2] at hs8
          have hbo8 : BothAt W0 ((wr.setCell ⟨gF, k * 2, none⟩ (.int .i64 m2)).drew) gy B uS uT (turnedF (fun m => Go.bits .xor .i64 m q5) fs (k + 1)) gs ds es :=
            ⟨hU.set_ne ⟨gF, k * 2, none⟩ _ hgne, hbo.new, hs8.drew, ht8.drew, hbo.base, hbo.apart, (hbo.below.setCell (p := ⟨gF, k * 2, none⟩) hgFb _).drew⟩
          have HBO := Lib.hid hbo8; have Hm2 := Lib.hid hm2; have Hq5 := Lib.hid hq5
          clear hx hx0 hnext hoF hll hs8 ht8 hbo8 hbo hU hFA
          go_upto_region 12 with (fail)
          refine wp_region_ordG (none) [(0, true), (1, true), (2, true), (3, true), (4, true), (5, true), (6, true), (7, true), (8, true), (9, true), (10, true), (11, true), (12, true), (13, true), (14, true), (15, true)] 16 (by kernel_rfl) (by kernel_rfl) fun hG0 => ?_
          repeat (first
            | (refine ord_skipB rfl (by rfl) ?_; simp only [Act.put, List.setIfInBounds_toArray, List.set_cons_zero, List.set_cons_succ])
            | (refine ord_qE rfl (by rfl) ?_; apply Exists.intro; refine ⟨fun w' hc' => ?_, ?_⟩; (focus (go_simp; (try go_bits); (try simp only [↓IntWalk.iteOmega]); with_reducible rfl)); simp only [Act.put, List.setIfInBounds_toArray, List.set_cons_zero, List.set_cons_succ]))
          refine ord_tail rfl fun K hK => ?_
          go_wp2_with (fail)
          refine hK.out _ _ ?_
          clear hK K
          clear v0 v1 v2 v3 y0 y0f hm2 hG0
          go_wp2
          go_roundw
          case rel => exact ⟨k + 1, by omega, by go_num, HBO.out⟩
          case measure => simp [intOf]; omega
        · obtain rfl : k = s.fn := by omega
          have hki : ¬ ((s.fn : Nat) : Int) < s.fn := by omega
          have hfull := turnedF_all (fun m => Go.bits .xor .i64 m q5) fs (k := s.fn) (by rw [Hfl.out]; exact Nat.le_refl _)
          rw [hfull] at hbo
          obtain ⟨fs2, hfs2⟩ : ∃ f, fs.map (fun x => { x with mode := Go.bits .xor .i64 x.mode q5 }) = f := ⟨_, rfl⟩
          rw [hfs2] at hbo
          have Hfs2 := Lib.hid hfs2
          have hf2l : fs2.length = s.fn := by rw [← hfs2, List.length_map, Hfl.out]
          have Hf2l := Lib.hid hf2l
          have HBO := Lib.hid hbo
          clear hfull hfs2 hf2l hbo hU
          go_wp2
          clear v0 v1 v2 v3
          go_loopw [11] (fun v wr => ∃ k : Nat, k ≤ t.fn ∧ v = .int .i64 k ∧ BothAt W0 wr gy B uS uT fs2 (turnedF (fun _ => q5) gs k) ds es) (fun v _ => t.fn - (intOf v).toNat)
          case atStart => exact ⟨0, Nat.zero_le _, rfl, by simpa [turnedF] using HBO.out⟩
          case round =>
            clear HBO
            obtain ⟨k, hk, rfl, hbo⟩ := hrel
            have hU := hbo.blk
            have v0 := hU.cell 0; have v1 := hU.cell 1; have v2 := hU.cell 2; have v3 := hU.cell 3
            have hUl := hU.lt
            by_cases hlt : k < t.fn
            · rw [Hvn.out] at v3
              have hki : (k : Int) < t.fn := by omega
              obtain ⟨x, hx0⟩ : ∃ x, gs[k]? = some x := ⟨_, List.getElem?_eq_getElem (by rw [Hgl.out]; exact hlt)⟩
              have hx := turnedF_get (fun _ => q5) hx0
              have hnext := turnedF_set (fun _ => q5) hx0
              have hoF := hbo.t.ownF
              obtain ⟨gF, hFA⟩ := own_some' hoF (by rw [Hvn.out]; omega)
              rw [hFA] at v3 hoF
              have y0 := (own_row hoF).1.get FC.len hx (j := 0) (v := .int .i64 x.mode) rfl
              simp only [Nat.zero_add, Nat.add_zero] at y0
              have y0f := own_frozen' hoF (k * 2)
              have hgFl := (own_row hoF).2.2.1
              have hgFb := (own_row hoF).2.1
              have hll : (turnedF (fun _ => q5) gs k).length ≤ es.length := by rw [turnedF_len, Hgl.out, HEs.out]; exact Nat.le_refl _
              have hgne : gy ≠ gF := fun e => hU.ne_row hoF (by decide) (by rw [e]; rfl)
              have ht8 := hbo.t.mode hll hFA hx q5
              have hs8 := hbo.s.other (i := k * 2) (g := gF) (by rw [Hf2l.out, HDs.out]; exact Nat.le_refl _) hoF (fun q hq e => by
                have h1 := hbo.apart q hq
                omega) (.int .i64 q5)
              rw [hnext] at ht8
              have hbo8 : BothAt W0 (wr.setCell ⟨gF, k * 2, none⟩ (.int .i64 q5)) gy B uS uT fs2 (turnedF (fun _ => q5) gs (k + 1)) ds es :=
                ⟨hU.set_ne ⟨gF, k * 2, none⟩ _ hgne, hbo.new, hs8, ht8, hbo.base, hbo.apart, hbo.below.setCell (p := ⟨gF, k * 2, none⟩) (Nat.le_trans hbo.base hgFb) _⟩
              have HBO := Lib.hid hbo8
              clear hx hx0 hnext hoF hll hs8 ht8 hbo8 hbo hU hFA
              go_wp2
              go_roundw
              case rel => exact ⟨k + 1, by omega, by go_num, HBO.out⟩
              case measure => simp [intOf]; omega
            · obtain rfl : k = t.fn := by omega
              have hki : ¬ ((t.fn : Nat) : Int) < (uT.fn : Nat) := by rw [Hvn.out]; omega
              have hfull := turnedF_all (fun _ => q5) gs (k := t.fn) (by rw [Hgl.out]; exact Nat.le_refl _)
              rw [hfull] at hbo
              obtain ⟨gs2, hgs2⟩ : ∃ f, gs.map (fun x : FC => { x with mode := q5 }) = f := ⟨_, rfl⟩
              rw [hgs2] at hbo
              have hg2l : gs2.length = t.fn := by rw [← hgs2, List.length_map, Hgl.out]
              -- both trees, as they stand now
              have hTS : TreeD wr ⟨uS.nodes, fs2, uS.NA, uS.nn, uS.nc, uS.FA, uS.fn, uS.fc⟩ ds := hbo.s.tree (by rw [HCF.out.nodes, HCF.out.nn]; exact HS.out.tree.nl) (by rw [Hf2l.out, Hun.out]) (by rw [Hf2l.out, HDs.out])
              have hTT : TreeD wr ⟨uT.nodes, gs2, uT.NA, uT.nn, uT.nc, uT.FA, uT.fn, uT.fc⟩ es := hbo.t.tree (by rw [HCG.out.nodes, HCG.out.nn]; exact HT.out.tree.nl) (by rw [hg2l, Hvn.out]) (by rw [hg2l, HEs.out])
              have hcS : checkE ⟨uS.nodes, fs2, uS.NA, uS.nn, uS.nc, uS.FA, uS.fn, uS.fc⟩ = 0 := by
                refine check_modes (t := s) HCF.out.nodes HCF.out.nn HCF.out.fn ?_ ?_ C1.out
                · rw [dat_sizes HS.out]; exact dat_sizes hTS
                · show ∀ x ∈ fs2, okMode x.mode = true
                  rw [← Hfs2.out]
                  exact turned_ok (f := fun m => Go.bits .xor .i64 m q5) (gs := s.files) (by rw [← Hfs.out]; exact HCF.out.modes) Gs.out.modes (fun m hm => xor_small hm Hq5m.out)
              have hcT : checkE ⟨uT.nodes, gs2, uT.NA, uT.nn, uT.nc, uT.FA, uT.fn, uT.fc⟩ = 0 := by
                refine check_modes (t := t) HCG.out.nodes HCG.out.nn HCG.out.fn ?_ ?_ C2.out
                · rw [dat_sizes HT.out]; exact dat_sizes hTT
                · show ∀ x ∈ gs2, okMode x.mode = true
                  rw [← hgs2]
                  exact turned_ok (f := fun _ => q5) (gs := t.files) (by rw [← Hgs.out]; exact HCG.out.modes) Gt.out.modes (fun m hm => Hq5m.out)
              obtain ⟨e1, e2⟩ := HTn.out ⟨uS.nodes, fs2, uS.NA, uS.nn, uS.nc, uS.FA, uS.fn, uS.fc⟩ ⟨uT.nodes, gs2, uT.NA, uT.nn, uT.nc, uT.FA, uT.fn, uT.fc⟩ HCF.out.nodes HCG.out.nodes hcS hcT
              have hbw : Below w.heap.size w wr := Hb.out.trans (hbo.below.mono Hb.out.size)
              have hm := match_any ⟨uS.nodes, fs2, uS.NA, uS.nn, uS.nc, uS.FA, uS.fn, uS.fc⟩ ⟨uT.nodes, gs2, uT.NA, uT.nn, uT.nc, uT.FA, uT.fn, uT.fc⟩ ds es SA sn sc ss sd wr hTS hTT (HK.out.keep hbw)
              rw [e1, e2] at hm
              unfold TV.val at hm
              have HM := Lib.hid hm; have HBO := Lib.hid hbo; have Hbw := Lib.hid hbw
              have hBw := HB.out.below hbo.below HB.out.lt
              have b4 := hBw.cell 4
              clear hm hbo hbw hTS hTT hcS hcT e1 e2 hfull hgs2 hU hBw
              go_upto_region 18 with (go_at_call 12; refine HM.out.mono ?_; rintro e w9 ⟨A9, n9, c9, rfl, hn9, hR9, hb9⟩)
              obtain rfl : n9 = n := by rw [← hn9, Hn.out]
              have hb9' : Below W0.heap.size W0 w9 := HBO.out.below.trans (hb9.mono HBO.out.below.size)
              have hR1 := HR.out.below hb9' (Nat.le_refl _)
              have hnn9 : n9 ≤ 9223372036854775807 := by have h1 := HLn.out; have h2 := Hn.out; rw [HEs.out] at h1; omega
              have hss := sameSrc_yes A A9 n9 c c9 L w9 Hn.out ⟨hR1.1, fun h => by obtain ⟨b, o, e, hl, hr⟩ := hR1.2 h; exact ⟨b, o, e, Nat.lt_of_lt_of_le hl hb9'.size, hr⟩⟩ hR9 hnn9
              have HSS := Lib.hid hss; have Hb9 := Lib.hid hb9'
              clear hss hR1 hR9 hb9 hb9' v0 v1 v2 v3 b4 hn9
              go_wp2_with (first | (go_at_call 13; refine (num11 _ _).mono ?_; rintro e w8 ⟨rfl, hw⟩; rw [hw]; clear hw) | (go_at_call 18; refine HSS.out.mono ?_; rintro e w10 ⟨rfl, hb10⟩))
              go_ret
              exact ⟨rfl, (Hb.out.trans (Hb9.out.mono Hb.out.size)).trans (hb10.mono (Hb.out.trans (Hb9.out.mono Hb.out.size)).size)⟩


set_option maxRecDepth 100000 in
theorem lifted (os : Os) (started : os.Started) (H : Type) (enc : TypeId × Value → H) :
    ReturnsInHanded {} Try.checked os 5 .any (Rows.matchModesSpec.pre6 enc Try.prog Try.f5 Rows.matchModesRow.domain false) (Rows.matchModesSpec.post enc Try.prog Try.f5 false true false false) := by
  refine returnsInHanded_of_change (C := Try.checked) own started (by kernel_rfl) Try.func5
    (ChangeSpec.witness6 (enc := enc) (C := Try.checked) false ⟨#[], #[.agg #[.slice none 0 0, .slice none 0 0, .slice none 0 0, .slice none 0 0, .slice none 0 0], .int .i64 0], []⟩ 8 (by kernel_rfl) (by kernel_rfl) (by kernel_rfl) (by kernel_rfl)) ?_
  intro W base args ds gs before hval0 hW hcnd _
  have hval : ∀ (j : Nat) t v, Try.f5.params[j]? = some t → args[j]? = some v → Value.okWide Try.prog W .any base t v := hval0
  have hW' := hW
  obtain ⟨p, q, hA0, hV, rfl, hfz, hnd⟩ := hW
  have hA : DataW.TrodAll enc Try.prog W 0 (fun _ => true) true Try.f5.params.toList args.toList ds p := hA0
  rw [Try.params5] at hA hval
  obtain ⟨v0, vs0, d0, ds0, p0, q0, hargs, rfl, rfl, h0, r0⟩ := trodAll_cons hA
  obtain ⟨v1, vs1, d1, ds1, p1, q1, rfl, rfl, rfl, h1, r1⟩ := trodAll_cons r0
  obtain ⟨rfl, rfl, rfl⟩ := trodAll_nil r1
  obtain rfl : args = #[v0, v1] := by cases args; simp_all
  obtain ⟨rfl, rfl⟩ := trodVars_none hV
  have k0 := h0
  have lt0 : ∀ x ∈ p0, x.block < W.heap.size := by obtain ⟨m, hm⟩ := k0; exact DataW.trod_lt m _ _ _ hm
  obtain ⟨s0, dS0, t0, eT0, SA0, sn0, sc0, ss0, sd0, rfl, hS0, hT0, hK0, hb0, hbt0, hbn0, hbs0⟩ := open_pair (hval 0 38 v0 rfl rfl) h0 lt0
  obtain ⟨a1, rfl, rfl, rfl, w1⟩ := open_int Try.underlying3 (hval 1 3 v1 rfl rfl) h1
  clear hA0 hval0
  refine (walk s0 dS0 t0 eT0 SA0 sn0 sc0 ss0 sd0 a1 W hS0 hT0 hK0 w1).mono fun e W' ⟨he, bel⟩ => ?_
  subst he
  exact ⟨_, rfl, _, _, _, [], _, [], hW', trodAll_mk1 (shut_bool Try.underlying4 _), (trodAll_cons_mk (Below.trod laidOut (by kernel_rfl) (of_decide_eq_true (by kernel_rfl)) k0 bel lt0) (trodAll_cons_mk (shut_int Try.underlying3 w1) trodAll_mk0)), rfl, bel.frame _, fun h => by cases h⟩

theorem over : Rows.matchModesRow.holds Try.pinned (OpenSpec.ofChange Rows.matchModesSpec) :=
  OpenClaim.holds_of_wide 5 Try.f5 rfl rfl rfl rfl rfl rfl rfl ⟨rfl, rfl, rfl, rfl, rfl⟩ rfl rfl rfl rfl rfl (by kernel_rfl) Try.func5 (by kernel_rfl)
    (of_decide_eq_true (by kernel_rfl)) (by unfold Func.isWrapper; first | (rw [if_pos (by decide +kernel)]; kernel_rfl) | (rw [if_neg (by decide +kernel)]; exact ⟨rfl, rfl⟩))
    (fun os started H enc _ => lifted os started H enc)

theorem proved : Rows.MatchModesSaid := over
#print axioms proved
end Go.Proofs.Ytcnpncieibmngaa.matchModesDone
