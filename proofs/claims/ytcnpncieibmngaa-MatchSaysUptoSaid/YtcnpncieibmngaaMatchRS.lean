/- match.Match's closures of the three rounds. match.Match's closures of the second and the third round. -/
import Derived.Test.YtcnpncieibmngaaMatchNO

namespace Go.Proofs.Ytcnpncieibmngaa
open Go.RowKit

/-- The variables that the rounds have besides. -/
structure MD where
  kx : Nat
  qx : Nat
  dx : Nat
  gx : Nat
  ax : Nat
  qg : Nat
  rs : List SC
  dm : Nat
  gm : Nat
  am : Nat
structure MM2 (C : MC) (D : MD) (W : World) : Prop where
  kB : Blk W D.kx 72 #[.func (.func 34) #[] #[.pointer (some ⟨C.fx, 0, none⟩), .pointer (some ⟨C.ox, 0, none⟩)]]
  qB : Blk W D.qx 73 #[.slice (some ⟨D.qg, 0, none⟩) C.t.fn C.t.fn]
  qR : OfAt W C.base (some ⟨D.qg, 0, none⟩) C.t.fn C.t.fn D.rs (namesP C.t.nodes)
  dB : Blk W D.dx 74 #[.map (some D.dm)]
  dM : IdxAt W D.dm 256 (fileOfP C.s.nodes)
  gB : Blk W D.gx 74 #[.map (some D.gm)]
  aB : Blk W D.ax 74 #[.map (some D.am)]
  aM : IdxAt W D.am 70000 (stockAt C.sd)
  n1 : D.dm ≠ C.fm
  n2 : D.am ≠ C.fm
  n3 : D.gm ≠ C.fm
  n4 : D.dm ≠ D.gm
  n5 : D.am ≠ D.gm
  gb : C.base ≤ D.gm
theorem MM2.fr {C : MC} {D : MD} {W W' : World} {B x : Nat} (h : MM2 C D W) (hf : FrM B [x] W W') (hx : ∃ ms ck, W.heap[x]? = some (.map ms ck)) (h1 : D.dm ≠ x) (h2 : D.am ≠ x) : MM2 C D W' := by
  have key : ∀ {g : Nat} {t : TypeId} {cs : Array Value}, Blk W g t cs → g ∉ [x] := fun {g t cs} hb hm => by
    obtain ⟨ms, ck, hmm⟩ := hx
    rw [List.mem_singleton.1 hm, ] at hb
    unfold Blk at hb
    rw [hb] at hmm
    cases hmm
  exact ⟨hf.blk h.kB (by decide) (key h.kB), hf.blk h.qB (by decide) (key h.qB), h.qR.fr hf (by simp only [List.mem_singleton]; rintro g rfl; exact hx), hf.blk h.dB (by decide) (key h.dB), h.dM.fr hf (by simpa using h1), hf.blk h.gB (by decide) (key h.gB), hf.blk h.aB (by decide) (key h.aB), h.aM.fr hf (by simpa using h2), h.n1, h.n2, h.n3, h.n4, h.n5, h.gb⟩
theorem MM1.isMap {C : MC} {W : World} {out : List Src} {F : ByteArray → List Nat} (h : MM1 C W out F) : ∃ ms ck, W.heap[C.fm]? = some (.map ms ck) := by
  obtain ⟨es, h1, _⟩ := h.fM
  exact h1.isMap
/-- What stands behind a round's closure. -/
def RoundRes (C : MC) (W : World) (st : MS) (e : Ending) (w' : World) : Prop := e = .returned (.int .i64 0) ∧ MM1 C w' st.1 (freeL C.ds st.2) ∧ FrM C.base [C.fm] W w'
theorem free_upd {ds : List ByteArray} {tk : Nat → Bool} {b : ByteArray} {f : Nat} (hf : f ∈ freeL ds tk b) : upd (freeL ds tk) b ((freeL ds tk b).filter fun x => decide (x ≠ f)) = freeL ds (fun x => x == f || tk x) := by
  funext c
  unfold upd
  by_cases e : c = b
  · subst e; rw [if_pos rfl, free_take]
  · rw [if_neg e, free_ne hf e]
theorem free_len (ds : List ByteArray) (tk : Nat → Bool) (b : ByteArray) : (freeL ds tk b).length ≤ ds.length := by
  unfold freeL
  exact Nat.le_trans (List.length_filter_le _ _) (by simp)
/-- take, of a file that is free. -/
theorem take_any (C : MC) (W : World) (st : MS) (h : MM1 C W st.1 (freeL C.ds st.2)) (i : Nat) (b : ByteArray) (hb : C.es[i]? = some b) (hbs : b.size ≤ maxLen) (hds : C.ds.length ≤ 256) (f : Nat) (hf : fits C.ds C.es st.2 i f = true) :
    Calls Try.prog 34 #[.int .i64 i, .string b, .int .i64 f, .pointer (some ⟨C.fx, 0, none⟩), .pointer (some ⟨C.ox, 0, none⟩)] W fun e w' =>
      e = .returned (.bool true) ∧ MM1 C w' (setK i (some f) st).1 (freeL C.ds (setK i (some f) st).2) ∧ FrM C.base [C.fm] W w' := by
  have hfl := free_len C.ds st.2 b
  have hil : i < C.es.length := (List.getElem?_eq_some_iff.1 hb).1
  have hm := (free_fits hb).1 hf
  obtain ⟨kk, hkk⟩ := List.getElem?_of_mem hm
  refine (take_yes C W st.1 (freeL C.ds st.2) h i hil b hbs f kk hkk (free_nodup _ _ _) (by omega)).mono ?_
  rintro e w' ⟨rfl, h1, h2⟩
  rw [free_upd hm] at h1
  exact ⟨rfl, h1, h2⟩
theorem take_none (C : MC) (W : World) (st : MS) (h : MM1 C W st.1 (freeL C.ds st.2)) (i : Nat) (b : ByteArray) (hb : C.es[i]? = some b) (hbs : b.size ≤ maxLen) (hds : C.ds.length ≤ 256) (f : Nat) (hf : fits C.ds C.es st.2 i f = false) :
    Calls Try.prog 34 #[.int .i64 i, .string b, .int .i64 f, .pointer (some ⟨C.fx, 0, none⟩), .pointer (some ⟨C.ox, 0, none⟩)] W fun e w' => e = .returned (.bool false) ∧ w' = W := by
  have hfl := free_len C.ds st.2 b
  refine take_no C W st.1 (freeL C.ds st.2) h i b hbs f (fun hm => ?_) (by omega)
  rw [(free_fits hb).2 hm] at hf
  cases hf
set_option maxRecDepth 100000 in
set_option maxHeartbeats 8000000 in
theorem round1_any (C : MC) (D : MD) (W : World) (st : MS) (h : MM1 C W st.1 (freeL C.ds st.2)) (h2 : MM2 C D W) (i : Nat) (b : ByteArray) (hb : C.es[i]? = some b) (hbs : b.size ≤ maxLen) (hds : C.ds.length ≤ 256) (hfn : C.t.fn = C.es.length) (hnl : C.t.nodes.length ≤ 256) :
    Calls Try.prog 36 #[.int .i64 i, .string b, .pointer (some ⟨D.qx, 0, none⟩), .pointer (some ⟨D.dx, 0, none⟩), .pointer (some ⟨D.kx, 0, none⟩)] W (RoundRes C W (step1 C.s.nodes C.t.nodes C.ds C.es st i)) := by
  have hil : i < C.es.length := (List.getElem?_eq_some_iff.1 hb).1
  have htake := take_any C W st h i b hb hbs hds
  have htn := take_none C W st h i b hb hbs hds
  obtain ⟨R, hR⟩ : ∃ R, step1 C.s.nodes C.t.nodes C.ds C.es st i = R := ⟨_, rfl⟩
  rw [hR]
  unfold step1 at hR
  obtain ⟨y, hy⟩ : ∃ y, D.rs[i]? = some y := ⟨_, List.getElem?_eq_getElem (by rw [h2.qR.len, hfn]; exact hil)⟩
  have hrow := h2.qR.row i y hy
  have hnames : ∀ p ∈ namesP C.t.nodes i, p.size ≤ maxLen := fun p hp => by
    obtain ⟨x, _, _, rfl⟩ := mem_names.1 hp
    have := x.hp
    unfold maxLen; omega
  have hln : (namesP C.t.nodes i).length ≤ 256 := Nat.le_trans (picks_len _ _) hnl
  obtain ⟨N, hN⟩ : ∃ N, namesP C.t.nodes i = N := ⟨_, rfl⟩
  rw [hN] at hrow hR hnames hln
  obtain ⟨yA, yn, yc⟩ := y
  simp only at hrow
  obtain ⟨hyn, hyo⟩ := hrow
  have hval : (D.rs.flatMap SC.list)[i]? = some (.slice yA yn yc) := by
    have := flat_get SC.len hy (j := 0) (by omega)
    rw [Nat.mul_one, Nat.add_zero] at this
    exact this
  have k0 := (own_row h2.qR.own).1 i _ hval
  rw [Nat.zero_add] at k0
  have q0 := h2.qB.cell 0
  have d0 := h2.dB.cell 0
  have t0 := h2.kB.cell 0
  obtain ⟨oes, om, _, og⟩ := h2.dM
  have hii : (i : Int) < C.t.fn := by omega
  have HT := Lib.hid htake; have HTn := Lib.hid htn; have HR := Lib.hid hR; have HN := Lib.hid hN; have HNm := Lib.hid hnames; have HOm := Lib.hid om; have HOg := Lib.hid og; have HYo := Lib.hid hyo; have H1 := Lib.hid h
  clear htake htn hR hN hnames om og hyo h hval hy h2
  go_enter Try.func36, Try.ntmps36
  go_wp2
  go_loopw [17] (fun v wr => ∃ j : Nat, j ≤ yn ∧ v = .int .i64 j ∧ wr = W ∧ namedF C.s.nodes C.ds C.es st.2 i N = namedF C.s.nodes C.ds C.es st.2 i (N.drop j)) (fun v _ => yn - (intOf v).toNat)
  case atStart => exact ⟨0, Nat.zero_le _, rfl, rfl, rfl⟩
  case round =>
    obtain ⟨j, hj, rfl, hW, hnm⟩ := hrel
    subst hW
    by_cases hlt : j < yn
    · have hji : (j : Int) < yn := by omega
      obtain ⟨gq, rfl⟩ := own_some' HYo.out (by omega)
      obtain ⟨p, hp⟩ : ∃ p, N[j]? = some p := ⟨_, List.getElem?_eq_getElem (by omega)⟩
      have hpv : (N.flatMap strOf)[j]? = some (.string p) := by
        have := flat_get (f := strOf) (sz := 1) (fun _ => rfl) hp (j := 0) (by omega)
        rw [Nat.mul_one, Nat.add_zero] at this
        exact this
      have c0 := (own_row HYo.out).1 j _ hpv
      rw [Nat.zero_add] at c0
      rw [drop_at' hp, namedF] at hnm
      have hok : strK.ok p := HNm.out p (List.mem_of_getElem? hp)
      have hgv := HOg.out p
      clear hp hpv
      cases hq : fileOfP C.s.nodes p with
      | none =>
        rw [hq] at hnm hgv
        simp only [Option.map_none] at hgv hnm
        have g1 : (getV oes p).getD (.int .i64 0) = .int .i64 0 := by rw [hgv]; rfl
        have g2 : (getV oes p).isSome = false := by rw [hgv]; rfl
        have G1 := Lib.hid g1; have G2 := Lib.hid g2; have Hnm := Lib.hid hnm
        clear g1 g2 hgv hq hnm
        go_wp2_with (refine wpList_mv_ok rfl Try.mtNum _ _ rfl rfl HOm.out (T := strK) (q := p) rfl hok G1.out G2.out ?_)
        go_roundw
        case rel => exact ⟨j + 1, by omega, by go_num, by first | rfl | trivial, Hnm.out⟩
        case measure => simp [intOf]; omega
      | some f =>
        rw [hq] at hnm hgv
        simp only [Option.map_some] at hgv hnm
        have g1 : (getV oes p).getD (.int .i64 0) = .int .i64 f := by rw [hgv]; rfl
        have g2 : (getV oes p).isSome = true := by rw [hgv]; rfl
        have G1 := Lib.hid g1; have G2 := Lib.hid g2
        clear g1 g2 hgv hq
        cases hfit : fits C.ds C.es st.2 i f with
        | false =>
          have htk := HTn.out f hfit
          rw [hfit, if_neg (by simp)] at hnm
          have Htk := Lib.hid htk; have Hnm := Lib.hid hnm
          clear htk hnm hfit
          go_wp2_with (first | (refine wpList_mv_ok rfl Try.mtNum _ _ rfl rfl HOm.out (T := strK) (q := p) rfl hok G1.out G2.out ?_) | (go_at_call 34; refine Htk.out.mono ?_; rintro e w3 ⟨rfl, hw3⟩; rw [hw3]; clear hw3))
          go_roundw
          case rel => exact ⟨j + 1, by omega, by go_num, by first | rfl | trivial, Hnm.out⟩
          case measure => simp [intOf]; omega
        | true =>
          have htk := HT.out f hfit
          rw [hfit, if_pos rfl] at hnm
          have hRR : R = setK i (some f) st := by rw [← HR.out, hnm]
          have Htk := Lib.hid htk; have HRR := Lib.hid hRR
          clear htk hnm hfit hRR
          go_wp2_with (first | (refine wpList_mv_ok rfl Try.mtNum _ _ rfl rfl HOm.out (T := strK) (q := p) rfl hok G1.out G2.out ?_) | (go_at_call 34; refine Htk.out.mono ?_; rintro e w3 ⟨rfl, hw3, hf3⟩; replace hw3 := Lib.hid hw3; replace hf3 := Lib.hid hf3))
          go_ret
          rw [HRR.out]
          exact ⟨rfl, hw3.out, hf3.out⟩
    · obtain rfl : j = yn := by omega
      have hji : ¬ (j : Int) < j := by omega
      have hRR : R = st := by
        rw [← HR.out, hnm, List.drop_of_length_le (by omega)]
        rfl
      have HRR := Lib.hid hRR
      clear hnm hRR
      go_wp2
      go_ret
      rw [HRR.out]
      exact ⟨rfl, H1.out, FrM.refl _ _ _⟩
end Go.Proofs.Ytcnpncieibmngaa

namespace Go.Proofs.Ytcnpncieibmngaa
open Go.RowKit

theorem og_at {C : MC} {W : World} {out : List Src} {F : ByteArray → List Nat} (h : MM1 C W out F) : ∃ cur, W.heap[C.og]? = some (.cells cur 35 (0, 0)) := by
  obtain ⟨g', cap, cur, hv, _, hh, _⟩ := h.oR.2.resolve_left (fun h => by cases h.1)
  injection hv with hv
  injection hv with hv
  injection hv with hv
  exact ⟨cur, by rw [hv]; exact hh⟩
theorem MM1.store {C : MC} {W W1 : World} {out out' : List Src} {F : ByteArray → List Nat} (h : MM1 C W out F) (hg : W.grownBy W1 (some C.og)) (ho : W1.ownsRow C.base 35 3 (.slice (some ⟨C.og, 0, none⟩) C.es.length C.es.length) C.es.length (out'.flatMap Src.list)) (hl : out'.length = C.es.length) :
    MM1 C W1 out' F ∧ ∀ xs, FrM C.base xs W W1 := by
  have hf : ∀ xs, FrM C.base xs W W1 := fun xs => FrM.of_row (A := some ⟨C.og, 0, none⟩) hg h.oR (.inl rfl) (Nat.le_refl _) h.size
  obtain ⟨cur, hog⟩ := og_at h
  refine ⟨⟨Nat.le_trans h.size hg.size, (hf []).blk h.sB (by decide) (by simp), (hf []).blk h.tB (by decide) (by simp), (hf []).blk h.oB (by decide) (by simp), ho, hl, (hf []).blk h.fB (by decide) (by simp), h.fM.fr (hf []) (by simp) fun g cur' hh => hg.block g (Array.getElem?_eq_some_iff.1 hh).1 fun e => ?_, h.fb⟩, hf⟩
  injection e with e
  rw [e, hog] at hh
  injection hh with hh
  injection hh with _ hh
  exact absurd hh (by decide)
theorem MM1.mapped {C : MC} {W W1 : World} {out : List Src} {F : ByteArray → List Nat} {m : Nat} (h : MM1 C W out F) (hg : W.grownBy W1 (some m)) (hm : ∃ ms ck, W.heap[m]? = some (.map ms ck)) (hb : C.base ≤ m) (hne : m ≠ C.fm) : MM1 C W1 out F ∧ FrM C.base [m] W W1 := by
  have hf : FrM C.base [m] W W1 := FrM.of_in hg h.size hb (by simp)
  obtain ⟨ms, ck, hmm⟩ := hm
  have key : ∀ {g : Nat} {t : TypeId} {cs : Array Value}, Blk W g t cs → g ∉ [m] := fun {g t cs} hb hm => by
    rw [List.mem_singleton.1 hm] at hb
    unfold Blk at hb
    rw [hb] at hmm
    cases hmm
  have hnc : ∀ (q : Nat) (cur : Array Value) (t : TypeId), W.heap[q]? = some (.cells cur t (0, 0)) → W1.heap[q]? = W.heap[q]? := fun q cur t hq => hg.block q (Array.getElem?_eq_some_iff.1 hq).1 fun e => by
    injection e with e
    rw [e, hmm] at hq
    cases hq
  refine ⟨⟨Nat.le_trans h.size hg.size, hf.blk h.sB (by decide) (key h.sB), hf.blk h.tB (by decide) (key h.tB), hf.blk h.oB (by decide) (key h.oB), own_keep h.oR fun g o e => ?_, h.ol, hf.blk h.fB (by decide) (key h.fB), h.fM.fr hf (by simpa using fun e => hne e.symm) fun g cur hh => hnc g cur _ hh, h.fb⟩, hf⟩
  obtain ⟨cur, hog⟩ := og_at h
  injection e with e
  injection e with e
  rw [← e]
  exact hnc _ cur _ hog
theorem src_cell {C : MC} {W : World} {out : List Src} {F : ByteArray → List Nat} (h : MM1 C W out F) {i : Nat} {x : Src} (hx : out[i]? = some x) : W.cell? ⟨C.og, i * 3, none⟩ = some (.int .i64 x.kind) := by
  have hval : (out.flatMap Src.list)[i * 3]? = some (.int .i64 x.kind) := by
    have := flat_get Src.len hx (j := 0) (by omega)
    rw [Nat.add_zero] at this
    exact this
  have k0 := (own_row h.oR).1 (i * 3) _ hval
  rwa [Nat.zero_add] at k0
set_option maxRecDepth 100000 in
set_option maxHeartbeats 8000000 in
theorem round2_any (C : MC) (D : MD) (W : World) (st : MS) (h : MM1 C W st.1 (freeL C.ds st.2)) (h2 : MM2 C D W) (i : Nat) (b : ByteArray) (hb : C.es[i]? = some b) (hbs : b.size ≤ maxLen) (hds : C.ds.length ≤ 256) :
    Calls Try.prog 37 #[.int .i64 i, .string b, .pointer (some ⟨C.ox, 0, none⟩), .pointer (some ⟨C.fx, 0, none⟩), .pointer (some ⟨D.kx, 0, none⟩)] W (RoundRes C W (step2 C.ds C.es st i)) := by
  have hil : i < C.es.length := (List.getElem?_eq_some_iff.1 hb).1
  have htake := take_any C W st h i b hb hbs hds
  obtain ⟨R, hR⟩ : ∃ R, step2 C.ds C.es st i = R := ⟨_, rfl⟩
  rw [hR]
  unfold step2 at hR
  obtain ⟨x, hx⟩ : ∃ x, st.1[i]? = some x := ⟨_, List.getElem?_eq_getElem (by rw [h.ol]; exact hil)⟩
  have k0 := src_cell h hx
  have hk : kindAt st.1 i = x.kind := by rw [kindAt, hx]; rfl
  rw [hk, alike_free hb] at hR
  have hok : strK.ok b := hbs
  have o0 := h.oB.cell 0
  have f0 := h.fB.cell 0
  have t0 := h2.kB.cell 0
  have hii : (i : Int) < C.es.length := by omega
  obtain ⟨es, hM, hes, hE⟩ := h.fM
  obtain ⟨A, c, hlk, hown⟩ := hE.look b
  have hfm : C.fm < W.heap.size := hM.lt
  have hfxl := h.fB.lt; have hoxl := h.oB.lt; have hkxl := h2.kB.lt
  have HT := Lib.hid htake; have HR := Lib.hid hR; have H1 := Lib.hid h; have HM := Lib.hid hM; have HLK := Lib.hid hlk; have HOw := Lib.hid hown
  clear htake hR h h2 hx hk hM hlk hown hE
  by_cases hz : x.kind = 0
  · rw [hz] at k0
    have HR2 : Hid (setK i (freeL C.ds st.2 b).head? st = R) := Lib.hid (by rw [← HR.out, if_pos hz])
    clear HR hz
    obtain ⟨l, hl⟩ : ∃ l, freeL C.ds st.2 b = l := ⟨_, rfl⟩
    have hfits : ∀ f, f ∈ l → fits C.ds C.es st.2 i f = true := fun f hf => (free_fits hb).2 (by rw [hl]; exact hf)
    rw [hl] at HR2 HLK HOw
    have HF := Lib.hid hfits
    clear hl hfits
    cases l with
    | nil =>
      have HRR : Hid (R = st) := Lib.hid HR2.out.symm
      have hrun : (Instr.lookup 67 (.map (some C.fm)) (.string b) false).run Try.prog W = .ok (.slice A 0 c) W := by
        have := HM.out.look Try.mtNums hok
        rw [HLK.out] at this
        exact this
      clear HR2
      go_enter Try.func37, Try.ntmps37
      go_wp2
      go_ret
      rw [HRR.out]
      exact ⟨rfl, H1.out, FrM.refl _ _ _⟩
    | cons f r =>
      have HRR : Hid (R = setK i (some f) st) := Lib.hid HR2.out.symm
      have htk := HT.out f (HF.out f (by simp))
      have HTk := Lib.hid htk
      obtain ⟨g, rfl⟩ := own_some' HOw.out (by simp)
      have c0 := (own_row HOw.out).1 0 (.int .i64 f) rfl
      have hgl := (own_row HOw.out).2.2.1
      have hpos : (0 : Int) < (f :: r).length := by simp
      obtain ⟨n, hn⟩ : ∃ n, (f :: r).length = n := ⟨_, rfl⟩
      rw [hn] at HLK hpos
      have hposn : 0 < n := by omega
      clear HR2 htk HT HOw hn
      have Hml : Hid (∀ w', (∀ b, b < W.heap.size → w'.heap[b]? = W.heap[b]?) → MapV strK w' C.fm es) := Lib.hid fun w' hh => HM.out.keep (hh _ hfm)
      have hrun : (Instr.lookup 67 (.map (some C.fm)) (.string b) false).run Try.prog W = .ok (.slice (some ⟨g, 0, none⟩) n c) W := by
        have := HM.out.look Try.mtNums hok
        rw [HLK.out] at this
        exact this
      go_enter Try.func37, Try.ntmps37
      go_upto_region 2 with (fail)
      clear hrun
      refine wp_region_ordG (none) [(0, true), (1, true), (2, true), (3, true), (4, true), (5, true), (6, true), (7, true)] 8 (by kernel_rfl) (by kernel_rfl) fun hG0 => ?_
      repeat (first
        | (refine ord_skipB rfl (by rfl) ?_; simp only [Act.put, List.setIfInBounds_toArray, List.set_cons_zero, List.set_cons_succ])
        | (refine ord_qH rfl (by rfl) (fun w' hh => exec_mv_look Try.mtNums rfl rfl rfl (Hml.out w' fun b hb => hh b hb (by simp)) hok HLK.out) ?_; simp only [Act.put, List.setIfInBounds_toArray, List.set_cons_zero, List.set_cons_succ])
        | (refine ord_qE rfl (by rfl) ?_; apply Exists.intro; refine ⟨fun w' hc' => ?_, ?_⟩; (focus (go_simp; (try go_bits); (try simp only [↓IntWalk.iteOmega]); with_reducible rfl)); simp only [Act.put, List.setIfInBounds_toArray, List.set_cons_zero, List.set_cons_succ]))
      refine ord_tail rfl fun K hK => ?_
      go_wp2_with (go_at_call 34; refine (take_any C W.drew st (H1.out.still (grown_drew W none)) i b hb hbs hds f (HF.out f (by simp))).mono ?_; rintro e w3 ⟨rfl, hw3, hf3⟩; replace hw3 := Lib.hid hw3; replace hf3 := Lib.hid hf3)
      refine hK.out _ _ ?_
      clear hK K
      go_wp2
      go_ret
      rw [HRR.out]
      exact ⟨rfl, hw3.out, (FrM.of_none (grown_drew W none) H1.out.size _).trans hf3.out⟩
  · have hzb : (x.kind == 0) = false := beq_eq_false_iff_ne.2 hz
    have HRR : Hid (R = st) := Lib.hid (by rw [← HR.out, if_neg hz])
    clear HR hz
    go_enter Try.func37, Try.ntmps37
    go_wp2
    go_ret
    rw [HRR.out]
    exact ⟨rfl, H1.out, FrM.refl _ _ _⟩
/-- What stands behind the third round's closure, where it goes well. -/
def R3Yes (C : MC) (D : MD) (W : World) (o : List Src) (F : ByteArray → List Nat) (N : Nat) (e : Ending) (w' : World) : Prop :=
  e = .returned (.int .i64 0) ∧ MM1 C w' o F ∧ IdxAt w' D.gm (N + 1) (srcOf C.es o) ∧ FrM C.base [D.gm] W w'
theorem round3_keep (C : MC) (D : MD) (W : World) (out : List Src) (F : ByteArray → List Nat) (h : MM1 C W out F) (i : Nat) (b : ByteArray) (hil : i < C.es.length) (hk : kindAt out i ≠ 0) :
    Calls Try.prog 38 #[.int .i64 i, .string b, .pointer (some ⟨C.ox, 0, none⟩), .pointer (some ⟨D.gx, 0, none⟩), .pointer (some ⟨D.ax, 0, none⟩)] W fun e w' => e = .returned (.int .i64 0) ∧ w' = W := by
  have hol : i < out.length := by rw [h.ol]; exact hil
  obtain ⟨x, hx⟩ : ∃ x, out[i]? = some x := ⟨_, List.getElem?_eq_getElem hol⟩
  have k0 := src_cell h hx
  have o0 := h.oB.cell 0
  have hii : (i : Int) < C.es.length := by omega
  rw [show kindAt out i = x.kind by rw [kindAt, hx]; rfl] at hk
  have hne : (x.kind != 0) = true := bne_iff_ne.2 hk
  clear hk hx h
  go_enter Try.func38, Try.ntmps38
  go_wp2
  go_ret
  exact ⟨rfl, rfl⟩
set_option maxRecDepth 100000 in
set_option maxHeartbeats 8000000 in
theorem round3_copy (C : MC) (D : MD) (W : World) (out : List Src) (F : ByteArray → List Nat) (h : MM1 C W out F) (h2 : MM2 C D W) (i : Nat) (b : ByteArray) (hil : i < C.es.length) (hbs : b.size ≤ maxLen) (N : Nat) (h3 : IdxAt W D.gm N (srcOf C.es out)) (h0 : kindAt out i = 0) (k : Nat) (hs : srcOf C.es out b = some k) :
    Calls Try.prog 38 #[.int .i64 i, .string b, .pointer (some ⟨C.ox, 0, none⟩), .pointer (some ⟨D.gx, 0, none⟩), .pointer (some ⟨D.ax, 0, none⟩)] W (R3Yes C D W (out.set i (copyS k)) F N) := by
  have hol : i < out.length := by rw [h.ol]; exact hil
  obtain ⟨x, hx⟩ : ∃ x, out[i]? = some x := ⟨_, List.getElem?_eq_getElem hol⟩
  have k0 := src_cell h hx
  have hk : kindAt out i = x.kind := by rw [kindAt, hx]; rfl
  rw [← hk, h0] at k0
  have hok : strK.ok b := hbs
  have o0 := h.oB.cell 0
  have g0 := h2.gB.cell 0
  have hii : (i : Int) < C.es.length := by omega
  obtain ⟨es, hM, hes, hg⟩ := h3
  have hgv := hg b
  rw [hs] at hgv
  have g1 : (getV es b).getD (.int .i64 0) = .int .i64 k := by rw [hgv]; rfl
  have g2 : (getV es b).isSome = true := by rw [hgv]; rfl
  have hpost : ∀ w1, w1.ownsRow C.base 35 3 (.slice (some ⟨C.og, 0, none⟩) C.es.length C.es.length) C.es.length ((out.flatMap Src.list).take (i * 3) ++ (#[.int .i64 2, .int .i64 k, .int .i64 0] : Array Value).toList ++ (out.flatMap Src.list).drop ((i + 1) * 3)) → W.grownBy w1 (some C.og) →
      MM1 C w1 (out.set i (copyS k)) F ∧ IdxAt w1 D.gm (N + 1) (srcOf C.es (out.set i (copyS k))) ∧ FrM C.base [D.gm] W w1 := fun w1 ho hg1 => by
    have hs1 : w1.ownsRow C.base 35 3 (.slice (some ⟨C.og, 0, none⟩) C.es.length C.es.length) C.es.length ((out.set i (copyS k)).flatMap Src.list) := by rw [← src_set hol]; exact ho
    obtain ⟨m1, f1⟩ := h.store hg1 hs1 (by rw [List.length_set]; exact h.ol)
    refine ⟨m1, ⟨es, (f1 []).map hM (by simp), by omega, fun p => ?_⟩, f1 _⟩
    rw [src_copy hol h0]
    exact hg p
  have HP := Lib.hid hpost; have G1 := Lib.hid g1; have G2 := Lib.hid g2; have HM := Lib.hid hM
  have HOR := Lib.hid h.oR
  clear hpost h h2 hx hM hg g1 g2 hgv hk hs h0
  go_enter Try.func38, Try.ntmps38
  go_wp2_with (first | (refine wpList_mv_ok rfl Try.mtNum _ _ rfl rfl HM.out (T := strK) (q := b) rfl hok G1.out G2.out ?_) | (refine wpList_store_own (sz := 3) (k := i) (off := i * 3) rfl 35 _ _ rfl HOR.out hil rfl rfl #[.int .i64 2, .int .i64 k, .int .i64 0] rfl rfl (by kernel_rfl) (src_one _ _ _) ?_; intro w1 ho1 hg1))
  go_ret
  exact ⟨rfl, HP.out w1 ho1 hg1⟩
set_option maxRecDepth 100000 in
set_option maxHeartbeats 8000000 in
theorem round3_miss (C : MC) (D : MD) (W : World) (out : List Src) (F : ByteArray → List Nat) (h : MM1 C W out F) (h2 : MM2 C D W) (i : Nat) (b : ByteArray) (hil : i < C.es.length) (hbs : b.size ≤ maxLen) (N : Nat) (h3 : IdxAt W D.gm N (srcOf C.es out)) (h0 : kindAt out i = 0) (hs : srcOf C.es out b = none) (ha : stockAt C.sd b = none) :
    Calls Try.prog 38 #[.int .i64 i, .string b, .pointer (some ⟨C.ox, 0, none⟩), .pointer (some ⟨D.gx, 0, none⟩), .pointer (some ⟨D.ax, 0, none⟩)] W fun e w' => e = .returned (.int .i64 32) ∧ w' = W := by
  have hol : i < out.length := by rw [h.ol]; exact hil
  obtain ⟨x, hx⟩ : ∃ x, out[i]? = some x := ⟨_, List.getElem?_eq_getElem hol⟩
  have k0 := src_cell h hx
  have hk : kindAt out i = x.kind := by rw [kindAt, hx]; rfl
  rw [← hk, h0] at k0
  have hok : strK.ok b := hbs
  have o0 := h.oB.cell 0
  have g0 := h2.gB.cell 0
  have a0 := h2.aB.cell 0
  have hii : (i : Int) < C.es.length := by omega
  obtain ⟨es, hM, hes, hg⟩ := h3
  obtain ⟨ats, hMa, _, hga⟩ := h2.aM
  have hgv := hg b
  rw [hs] at hgv
  have hav := hga b
  rw [ha] at hav
  have g1 : (getV es b).getD (.int .i64 0) = .int .i64 0 := by rw [hgv]; rfl
  have g2 : (getV es b).isSome = false := by rw [hgv]; rfl
  have a1 : (getV ats b).getD (.int .i64 0) = .int .i64 0 := by rw [hav]; rfl
  have a2 : (getV ats b).isSome = false := by rw [hav]; rfl
  have G1 := Lib.hid g1; have G2 := Lib.hid g2; have A1 := Lib.hid a1; have A2 := Lib.hid a2; have HM := Lib.hid hM; have HMa := Lib.hid hMa
  clear h h2 hx hM hg g1 g2 hgv hk hs h0 hMa hga hav a1 a2 ha
  have tok1 : True := trivial
  go_enter Try.func38, Try.ntmps38
  go_wp2_with (first | (refine wpList_mv_ok rfl Try.mtNum _ _ rfl rfl HM.out (T := strK) (q := b) rfl hok G1.out G2.out ?_) | (refine wpList_mv_ok rfl Try.mtNum _ _ rfl rfl HMa.out (T := strK) (q := b) rfl hok A1.out A2.out ?_))
  go_ret
  exact ⟨rfl, rfl⟩
set_option maxRecDepth 100000 in
set_option maxHeartbeats 8000000 in
theorem round3_new (C : MC) (D : MD) (W : World) (out : List Src) (F : ByteArray → List Nat) (h : MM1 C W out F) (h2 : MM2 C D W) (i : Nat) (b : ByteArray) (hb : C.es[i]? = some b) (hbs : b.size ≤ maxLen) (N : Nat) (h3 : IdxAt W D.gm N (srcOf C.es out)) (hN : N ≤ 1000) (h0 : kindAt out i = 0) (k : Nat) (hs : srcOf C.es out b = none) (ha : stockAt C.sd b = some k) :
    Calls Try.prog 38 #[.int .i64 i, .string b, .pointer (some ⟨C.ox, 0, none⟩), .pointer (some ⟨D.gx, 0, none⟩), .pointer (some ⟨D.ax, 0, none⟩)] W (R3Yes C D W (out.set i (newS k)) F N) := by
  have hil : i < C.es.length := (List.getElem?_eq_some_iff.1 hb).1
  have hol : i < out.length := by rw [h.ol]; exact hil
  obtain ⟨x, hx⟩ : ∃ x, out[i]? = some x := ⟨_, List.getElem?_eq_getElem hol⟩
  have k0 := src_cell h hx
  have hk : kindAt out i = x.kind := by rw [kindAt, hx]; rfl
  rw [← hk, h0] at k0
  have hok : strK.ok b := hbs
  have o0 := h.oB.cell 0
  have g0 := h2.gB.cell 0
  have a0 := h2.aB.cell 0
  have hii : (i : Int) < C.es.length := by omega
  obtain ⟨es, hM, hes, hg⟩ := h3
  obtain ⟨ats, hMa, _, hga⟩ := h2.aM
  have hgv := hg b
  rw [hs] at hgv
  have hav := hga b
  rw [ha] at hav
  have g1 : (getV es b).getD (.int .i64 0) = .int .i64 0 := by rw [hgv]; rfl
  have g2 : (getV es b).isSome = false := by rw [hgv]; rfl
  have a1 : (getV ats b).getD (.int .i64 0) = .int .i64 k := by rw [hav]; rfl
  have a2 : (getV ats b).isSome = true := by rw [hav]; rfl
  have hstore : ∀ w1, w1.ownsRow C.base 35 3 (.slice (some ⟨C.og, 0, none⟩) C.es.length C.es.length) C.es.length ((out.flatMap Src.list).take (i * 3) ++ (#[.int .i64 3, .int .i64 0, .int .i64 k] : Array Value).toList ++ (out.flatMap Src.list).drop ((i + 1) * 3)) → W.grownBy w1 (some C.og) →
      MM1 C w1 (out.set i (newS k)) F ∧ MapV strK w1 D.gm es ∧ FrM C.base [D.gm] W w1 ∧ Blk w1 D.gx 74 #[.map (some D.gm)] := fun w1 ho hg1 => by
    have hs1 : w1.ownsRow C.base 35 3 (.slice (some ⟨C.og, 0, none⟩) C.es.length C.es.length) C.es.length ((out.set i (newS k)).flatMap Src.list) := by rw [← src_set hol]; exact ho
    obtain ⟨m1, f1⟩ := h.store hg1 hs1 (by rw [List.length_set]; exact h.ol)
    exact ⟨m1, (f1 []).map hM (by simp), f1 _, (f1 []).blk h2.gB (by decide) (by simp)⟩
  have hpost : ∀ w1 w2, MM1 C w1 (out.set i (newS k)) F → MapV strK w1 D.gm es → FrM C.base [D.gm] W w1 → MapV strK w2 D.gm (putV es b (.int .i64 i)) → w1.grownBy w2 (some D.gm) →
      MM1 C w2 (out.set i (newS k)) F ∧ IdxAt w2 D.gm (N + 1) (srcOf C.es (out.set i (newS k))) ∧ FrM C.base [D.gm] W w2 := fun w1 w2 m1 hm1 f1 hm2 hg2 => by
    obtain ⟨m2, f2⟩ := m1.mapped hg2 hm1.isMap h2.gb h2.n3
    refine ⟨m2, ⟨_, hm2, Nat.le_trans (getV_len _ _) (by omega), fun p => ?_⟩, f1.trans f2⟩
    rw [putV_get hM.1, src_new hol h0 hb hs]
    by_cases e : p = b
    · rw [if_pos e, if_pos e]; rfl
    · rw [if_neg e, if_neg e]; exact hg p
  have hel : es.length < maxLen := by unfold maxLen; omega
  have HP := Lib.hid hpost; have HSt := Lib.hid hstore; have G1 := Lib.hid g1; have G2 := Lib.hid g2; have A1 := Lib.hid a1; have A2 := Lib.hid a2; have HM := Lib.hid hM; have HMa := Lib.hid hMa
  have HOR := Lib.hid h.oR
  clear hpost hstore h h2 hx hM hg g1 g2 hgv hk hs h0 hMa hga hav a1 a2 ha
  go_enter Try.func38, Try.ntmps38
  go_upto_region 11 with (first | (refine wpList_mv_ok rfl Try.mtNum _ _ rfl rfl HM.out (T := strK) (q := b) rfl hok G1.out G2.out ?_) | (refine wpList_mv_ok rfl Try.mtNum _ _ rfl rfl HMa.out (T := strK) (q := b) rfl hok A1.out A2.out ?_) | (refine wpList_store_own (sz := 3) (k := i) (off := i * 3) rfl 35 _ _ rfl HOR.out hil rfl rfl #[.int .i64 3, .int .i64 0, .int .i64 k] rfl rfl (by kernel_rfl) (src_one _ _ _) ?_; intro w1 ho1 hg1))
  obtain ⟨m1, hm1, f1, hgB⟩ := HSt.out w1 ho1 hg1
  have q0 := hgB.cell 0
  have M1 := Lib.hid m1; have HM1 := Lib.hid hm1; have F1 := Lib.hid f1
  clear m1 hm1 f1 ho1 hg1 g0 a0 o0 k0
  go_wp2_with (refine wpList_mv_put rfl Try.mtNum _ _ _ (.inl rfl) rfl HM1.out (T := strK) (q := b) rfl hok rfl hel ?_; intro w2 hm2 hg2 hs2)
  go_ret
  exact ⟨rfl, HP.out w1 w2 M1.out HM1.out F1.out hm2 hg2⟩
end Go.Proofs.Ytcnpncieibmngaa
