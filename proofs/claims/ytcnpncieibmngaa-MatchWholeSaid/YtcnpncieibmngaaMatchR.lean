/- match.Match's closures of the three rounds. -/
import Derived.Test.YtcnpncieibmngaaMatchO
namespace Go.Proofs.Ytcnpncieibmngaa
open Go.RowKit

/-- The variables that the rounds have besides. -/
structure MD where
  kx : Nat
  qx : Nat
  dx : Nat
  gx : Nat
  ax : Nat
  qg : Nat
  rs : List SC
  dm : Nat
  gm : Nat
  am : Nat
structure MM2 (C : MC) (D : MD) (W : World) : Prop where
  kB : Blk W D.kx 72 #[.func (.func 34) #[] #[.pointer (some ⟨C.fx, 0, none⟩), .pointer (some ⟨C.ox, 0, none⟩)]]
  qB : Blk W D.qx 73 #[.slice (some ⟨D.qg, 0, none⟩) C.t.fn C.t.fn]
  qR : OfAt W C.base (some ⟨D.qg, 0, none⟩) C.t.fn C.t.fn D.rs (namesP C.t.nodes)
  dB : Blk W D.dx 74 #[.map (some D.dm)]
  dM : IdxAt W D.dm 256 (fileOfP C.s.nodes)
  gB : Blk W D.gx 74 #[.map (some D.gm)]
  aB : Blk W D.ax 74 #[.map (some D.am)]
  aM : IdxAt W D.am 70000 (stockAt C.sd)
  n1 : D.dm ≠ C.fm
  n2 : D.am ≠ C.fm
  n3 : D.gm ≠ C.fm
  n4 : D.dm ≠ D.gm
  n5 : D.am ≠ D.gm
  gb : C.base ≤ D.gm
theorem MM2.fr {C : MC} {D : MD} {W W' : World} {B x : Nat} (h : MM2 C D W) (hf : FrM B [x] W W') (hx : ∃ ms ck, W.heap[x]? = some (.map ms ck)) (h1 : D.dm ≠ x) (h2 : D.am ≠ x) : MM2 C D W' := by
  have key : ∀ {g : Nat} {t : TypeId} {cs : Array Value}, Blk W g t cs → g ∉ [x] := fun {g t cs} hb hm => by
    obtain ⟨ms, ck, hmm⟩ := hx
    rw [List.mem_singleton.1 hm, ] at hb
    unfold Blk at hb
    rw [hb] at hmm
    cases hmm
  exact ⟨hf.blk h.kB (by decide) (key h.kB), hf.blk h.qB (by decide) (key h.qB), h.qR.fr hf (by simp only [List.mem_singleton]; rintro g rfl; exact hx), hf.blk h.dB (by decide) (key h.dB), h.dM.fr hf (by simpa using h1), hf.blk h.gB (by decide) (key h.gB), hf.blk h.aB (by decide) (key h.aB), h.aM.fr hf (by simpa using h2), h.n1, h.n2, h.n3, h.n4, h.n5, h.gb⟩
theorem MM1.isMap {C : MC} {W : World} {out : List Src} {F : ByteArray → List Nat} (h : MM1 C W out F) : ∃ ms ck, W.heap[C.fm]? = some (.map ms ck) := by
  obtain ⟨es, h1, _⟩ := h.fM
  exact h1.isMap
/-- What stands behind a round's closure. -/
def RoundRes (C : MC) (W : World) (st : MS) (e : Ending) (w' : World) : Prop := e = .returned (.int .i64 0) ∧ MM1 C w' st.1 (freeL C.ds st.2) ∧ FrM C.base [C.fm] W w'
theorem free_upd {ds : List ByteArray} {tk : Nat → Bool} {b : ByteArray} {f : Nat} (hf : f ∈ freeL ds tk b) : upd (freeL ds tk) b ((freeL ds tk b).filter fun x => decide (x ≠ f)) = freeL ds (fun x => x == f || tk x) := by
  funext c
  unfold upd
  by_cases e : c = b
  · subst e; rw [if_pos rfl, free_take]
  · rw [if_neg e, free_ne hf e]
theorem free_len (ds : List ByteArray) (tk : Nat → Bool) (b : ByteArray) : (freeL ds tk b).length ≤ ds.length := by
  unfold freeL
  exact Nat.le_trans (List.length_filter_le _ _) (by simp)
/-- take, of a file that is free. -/
theorem take_any (C : MC) (W : World) (st : MS) (h : MM1 C W st.1 (freeL C.ds st.2)) (i : Nat) (b : ByteArray) (hb : C.es[i]? = some b) (hbs : b.size ≤ maxLen) (hds : C.ds.length ≤ 256) (f : Nat) (hf : fits C.ds C.es st.2 i f = true) :
    Calls Try.prog 34 #[.int .i64 i, .string b, .int .i64 f, .pointer (some ⟨C.fx, 0, none⟩), .pointer (some ⟨C.ox, 0, none⟩)] W fun e w' =>
      e = .returned (.bool true) ∧ MM1 C w' (setK i (some f) st).1 (freeL C.ds (setK i (some f) st).2) ∧ FrM C.base [C.fm] W w' := by
  have hfl := free_len C.ds st.2 b
  have hil : i < C.es.length := (List.getElem?_eq_some_iff.1 hb).1
  have hm := (free_fits hb).1 hf
  obtain ⟨kk, hkk⟩ := List.getElem?_of_mem hm
  refine (take_yes C W st.1 (freeL C.ds st.2) h i hil b hbs f kk hkk (free_nodup _ _ _) (by omega)).mono ?_
  rintro e w' ⟨rfl, h1, h2⟩
  rw [free_upd hm] at h1
  exact ⟨rfl, h1, h2⟩
theorem take_none (C : MC) (W : World) (st : MS) (h : MM1 C W st.1 (freeL C.ds st.2)) (i : Nat) (b : ByteArray) (hb : C.es[i]? = some b) (hbs : b.size ≤ maxLen) (hds : C.ds.length ≤ 256) (f : Nat) (hf : fits C.ds C.es st.2 i f = false) :
    Calls Try.prog 34 #[.int .i64 i, .string b, .int .i64 f, .pointer (some ⟨C.fx, 0, none⟩), .pointer (some ⟨C.ox, 0, none⟩)] W fun e w' => e = .returned (.bool false) ∧ w' = W := by
  have hfl := free_len C.ds st.2 b
  refine take_no C W st.1 (freeL C.ds st.2) h i b hbs f (fun hm => ?_) (by omega)
  rw [(free_fits hb).2 hm] at hf
  cases hf
set_option maxRecDepth 100000 in
set_option maxHeartbeats 8000000 in
theorem round1_any (C : MC) (D : MD) (W : World) (st : MS) (h : MM1 C W st.1 (freeL C.ds st.2)) (h2 : MM2 C D W) (i : Nat) (b : ByteArray) (hb : C.es[i]? = some b) (hbs : b.size ≤ maxLen) (hds : C.ds.length ≤ 256) (hfn : C.t.fn = C.es.length) (hnl : C.t.nodes.length ≤ 256) :
    Calls Try.prog 36 #[.int .i64 i, .string b, .pointer (some ⟨D.qx, 0, none⟩), .pointer (some ⟨D.dx, 0, none⟩), .pointer (some ⟨D.kx, 0, none⟩)] W (RoundRes C W (step1 C.s.nodes C.t.nodes C.ds C.es st i)) := by
  have hil : i < C.es.length := (List.getElem?_eq_some_iff.1 hb).1
  have htake := take_any C W st h i b hb hbs hds
  have htn := take_none C W st h i b hb hbs hds
  obtain ⟨R, hR⟩ : ∃ R, step1 C.s.nodes C.t.nodes C.ds C.es st i = R := ⟨_, rfl⟩
  rw [hR]
  unfold step1 at hR
  obtain ⟨y, hy⟩ : ∃ y, D.rs[i]? = some y := ⟨_, List.getElem?_eq_getElem (by rw [h2.qR.len, hfn]; exact hil)⟩
  have hrow := h2.qR.row i y hy
  have hnames : ∀ p ∈ namesP C.t.nodes i, p.size ≤ maxLen := fun p hp => by
    obtain ⟨x, _, _, rfl⟩ := mem_names.1 hp
    have := x.hp
    unfold maxLen; omega
  have hln : (namesP C.t.nodes i).length ≤ 256 := Nat.le_trans (picks_len _ _) hnl
  obtain ⟨N, hN⟩ : ∃ N, namesP C.t.nodes i = N := ⟨_, rfl⟩
  rw [hN] at hrow hR hnames hln
  obtain ⟨yA, yn, yc⟩ := y
  simp only at hrow
  obtain ⟨hyn, hyo⟩ := hrow
  have hval : (D.rs.flatMap SC.list)[i]? = some (.slice yA yn yc) := by
    have := flat_get SC.len hy (j := 0) (by omega)
    rw [Nat.mul_one, Nat.add_zero] at this
    exact this
  have k0 := (own_row h2.qR.own).1 i _ hval
  rw [Nat.zero_add] at k0
  have q0 := h2.qB.cell 0
  have d0 := h2.dB.cell 0
  have t0 := h2.kB.cell 0
  obtain ⟨oes, om, _, og⟩ := h2.dM
  have hii : (i : Int) < C.t.fn := by omega
  have HT := Lib.hid htake; have HTn := Lib.hid htn; have HR := Lib.hid hR; have HN := Lib.hid hN; have HNm := Lib.hid hnames; have HOm := Lib.hid om; have HOg := Lib.hid og; have HYo := Lib.hid hyo; have H1 := Lib.hid h
  clear htake htn hR hN hnames om og hyo h hval hy h2
  go_enter Try.func36, Try.ntmps36
  go_wp2
  go_loopw [17] (fun v wr => ∃ j : Nat, j ≤ yn ∧ v = .int .i64 j ∧ wr = W ∧ namedF C.s.nodes C.ds C.es st.2 i N = namedF C.s.nodes C.ds C.es st.2 i (N.drop j)) (fun v _ => yn - (intOf v).toNat)
  case atStart => exact ⟨0, Nat.zero_le _, rfl, rfl, rfl⟩
  case round =>
    obtain ⟨j, hj, rfl, hW, hnm⟩ := hrel
    subst hW
    by_cases hlt : j < yn
    · have hji : (j : Int) < yn := by omega
      obtain ⟨gq, rfl⟩ := own_some' HYo.out (by omega)
      obtain ⟨p, hp⟩ : ∃ p, N[j]? = some p := ⟨_, List.getElem?_eq_getElem (by omega)⟩
      have hpv : (N.flatMap strOf)[j]? = some (.string p) := by
        have := flat_get (f := strOf) (sz := 1) (fun _ => rfl) hp (j := 0) (by omega)
        rw [Nat.mul_one, Nat.add_zero] at this
        exact this
      have c0 := (own_row HYo.out).1 j _ hpv
      rw [Nat.zero_add] at c0
      rw [drop_at' hp, namedF] at hnm
      have hok : strK.ok p := HNm.out p (List.mem_of_getElem? hp)
      have hgv := HOg.out p
      clear hp hpv
      cases hq : fileOfP C.s.nodes p with
      | none =>
        rw [hq] at hnm hgv
        simp only [Option.map_none] at hgv hnm
        have g1 : (getV oes p).getD (.int .i64 0) = .int .i64 0 := by rw [hgv]; rfl
        have g2 : (getV oes p).isSome = false := by rw [hgv]; rfl
        have G1 := Lib.hid g1; have G2 := Lib.hid g2; have Hnm := Lib.hid hnm
        clear g1 g2 hgv hq hnm
        go_wp2_with (refine wpList_mv_ok rfl Try.mtNum _ _ rfl rfl HOm.out (T := strK) (q := p) rfl hok G1.out G2.out ?_)
        go_roundw
        case rel => exact ⟨j + 1, by omega, by go_num, by first | rfl | trivial, Hnm.out⟩
        case measure => simp [intOf]; omega
      | some f =>
        rw [hq] at hnm hgv
        simp only [Option.map_some] at hgv hnm
        have g1 : (getV oes p).getD (.int .i64 0) = .int .i64 f := by rw [hgv]; rfl
        have g2 : (getV oes p).isSome = true := by rw [hgv]; rfl
        have G1 := Lib.hid g1; have G2 := Lib.hid g2
        clear g1 g2 hgv hq
        cases hfit : fits C.ds C.es st.2 i f with
        | false =>
          have htk := HTn.out f hfit
          rw [hfit, if_neg (by simp)] at hnm
          have Htk := Lib.hid htk; have Hnm := Lib.hid hnm
          clear htk hnm hfit
          go_wp2_with (first | (refine wpList_mv_ok rfl Try.mtNum _ _ rfl rfl HOm.out (T := strK) (q := p) rfl hok G1.out G2.out ?_) | (go_at_call 34; refine Htk.out.mono ?_; rintro e w3 ⟨rfl, hw3⟩; rw [hw3]; clear hw3))
          go_roundw
          case rel => exact ⟨j + 1, by omega, by go_num, by first | rfl | trivial, Hnm.out⟩
          case measure => simp [intOf]; omega
        | true =>
          have htk := HT.out f hfit
          rw [hfit, if_pos rfl] at hnm
          have hRR : R = setK i (some f) st := by rw [← HR.out, hnm]
          have Htk := Lib.hid htk; have HRR := Lib.hid hRR
          clear htk hnm hfit hRR
          go_wp2_with (first | (refine wpList_mv_ok rfl Try.mtNum _ _ rfl rfl HOm.out (T := strK) (q := p) rfl hok G1.out G2.out ?_) | (go_at_call 34; refine Htk.out.mono ?_; rintro e w3 ⟨rfl, hw3, hf3⟩; replace hw3 := Lib.hid hw3; replace hf3 := Lib.hid hf3))
          go_ret
          rw [HRR.out]
          exact ⟨rfl, hw3.out, hf3.out⟩
    · obtain rfl : j = yn := by omega
      have hji : ¬ (j : Int) < j := by omega
      have hRR : R = st := by
        rw [← HR.out, hnm, List.drop_of_length_le (by omega)]
        rfl
      have HRR := Lib.hid hRR
      clear hnm hRR
      go_wp2
      go_ret
      rw [HRR.out]
      exact ⟨rfl, H1.out, FrM.refl _ _ _⟩
end Go.Proofs.Ytcnpncieibmngaa
