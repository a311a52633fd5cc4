/- A script's bytes and what is read out of them: plain. -/
import Derived.Test.YtgeiegjpnnbloaaDoorBodyP
import Derived.Test.YtgeiegjpnnbloaaDoorEncR
namespace Go.Proofs.YtgeiegjpnnbloaaDoor

structure WfS (s : Scr) : Prop where
  fl : s.frm.length = 32
  gl : s.goal.length = 32
  il : s.ins.length = s.il
  rl : s.refs.length = s.rl
  r32 : ∀ r ∈ s.refs, r.2.length = 32
/-- l is the encoding of a script that can stand. -/
structure EncOf (s : Scr) (l : List UInt8) : Prop where
  wf : WfS s
  ok : validS s
  enc : encL s = l
structure EqS (s t : Scr) : Prop where
  frm : s.frm = t.frm
  goal : s.goal = t.goal
  pb : s.pb = t.pb
  pi : s.pi = t.pi
  ins : s.ins = t.ins
  refs : s.refs = t.refs
theorem EqS.il {s t : Scr} (h : EqS s t) (hs : WfS s) (ht : WfS t) : s.il = t.il := by rw [← hs.il, ← ht.il, h.ins]
theorem EqS.rl {s t : Scr} (h : EqS s t) (hs : WfS s) (ht : WfS t) : s.rl = t.rl := by rw [← hs.rl, ← ht.rl, h.refs]
theorem EqS.enc {s t : Scr} (h : EqS s t) (hs : WfS s) (ht : WfS t) : encL s = encL t := by
  have e1 := h.il hs ht
  have e2 := h.rl hs ht
  unfold encL bodyE headL
  rw [h.frm, h.goal, h.pb, h.pi, h.ins, h.refs, e1, e2]
theorem EqS.ok {s t : Scr} (h : EqS s t) (hs : WfS s) (ht : WfS t) (hv : validS t) : validS s := by
  have e1 := h.il hs ht
  unfold validS at hv ⊢
  rw [h.pb, h.pi, h.ins, h.refs, e1]
  exact hv
theorem EncOf.turn {s t : Scr} {l : List UInt8} (h : EncOf t l) (he : EqS s t) (hs : WfS s) : EncOf s l := ⟨hs, he.ok hs h.wf h.ok, (he.enc hs h.wf).trans h.enc⟩
def tlL (s : Scr) : List UInt8 := leB (crcF (bodyE s)).toNat 4
theorem tlL_len (s : Scr) : (tlL s).length = 4 := leB_len _ _
theorem validS.refs {s : Scr} (h : validS s) : ∀ r ∈ s.refs, 0 ≤ r.1 ∧ r.1 ≤ 65534 := fun r hr => by
  have h1 : r.1 ∈ wrL s.ins := (h.2.2.2.2 r.1).1 (List.mem_map_of_mem hr)
  unfold wrL at h1
  rw [List.mem_map] at h1
  obtain ⟨x, hx, e⟩ := h1
  rw [List.mem_filter] at hx
  have h6 : x.op = 6 := by simpa using hx.2
  have := (h.2.2.1 x hx.1).2.2.2.2.2.2.2.2 h6
  rw [← e]
  exact this
theorem validS.fit {s : Scr} (h : validS s) : ∀ x ∈ s.ins, FitI x := fun x hx => fit_ok (h.2.2.1 x hx)
theorem wr_len (l : List Ins) : (wrL l).length ≤ l.length := by
  unfold wrL
  rw [List.length_map]
  exact List.length_filter_le _ _
theorem EncOf.rl {s : Scr} {l : List UInt8} (h : EncOf s l) : s.rl ≤ 4096 := by
  have h1 := nodup_le (rising_nodup h.ok.2.2.2.1) (fun a ha => (h.ok.2.2.2.2 a).1 ha)
  rw [List.length_map, h.wf.rl] at h1
  have h2 := wr_len s.ins
  rw [h.wf.il] at h2
  have := h.ok.1
  omega
/-- The head's parts. -/
structure HeadQ (l : List UInt8) (s : Scr) : Prop where
  frm : (l.drop 5).take 32 = s.frm
  goal : (l.drop 37).take 32 = s.goal
  pb : ((deN ((l.drop 69).take 4) : Nat) : Int) = s.pb
  pi : ((deN ((l.drop 73).take 4) : Nat) : Int) = s.pi
  il : deN ((l.drop 77).take 2) = s.il
  rl : deN ((l.drop 79).take 2) = s.rl
  rest : l.drop 81 = s.refs.flatMap refL ++ (s.ins.flatMap recL ++ tlL s)
theorem drop_app {α : Type} {l a b : List α} {i j : Nat} (h : l.drop i = a ++ b) (ha : a.length = j) : l.drop (i + j) = b := by
  rw [← List.drop_drop, h, List.drop_left' ha]
theorem EncOf.head {s : Scr} {l : List UInt8} (h : EncOf s l) : HeadQ l s := by
  have hb := h.ok.2.1.1
  have hi := h.ok.2.1.2
  unfold okPart at hb hi
  simp only [Bool.and_eq_true, decide_eq_true_eq] at hb hi
  obtain ⟨p, hp⟩ := Int.eq_ofNat_of_zero_le hb.1
  obtain ⟨q, hq⟩ := Int.eq_ofNat_of_zero_le hi.1
  have hil := h.ok.1
  have hrl := h.rl
  have e : l.drop 0 = markL ++ (s.frm ++ (s.goal ++ (leB (p : Int) 4 ++ (leB (q : Int) 4 ++ (leB (s.il : Int) 2 ++ (leB (s.rl : Int) 2 ++ (s.refs.flatMap refL ++ (s.ins.flatMap recL ++ tlL s)))))))) := by
    rw [List.drop_zero, ← h.enc]
    unfold encL tlL
    generalize leB (crcF (bodyE s)).toNat 4 = T
    unfold bodyE headL
    rw [hp, hq]
    simp only [List.append_assoc]
  have d5 := drop_app e (show markL.length = 5 from rfl)
  have d37 := drop_app d5 h.wf.fl
  have d69 := drop_app d37 h.wf.gl
  have d73 := drop_app d69 (leB_len _ _)
  have d77 := drop_app d73 (leB_len _ _)
  have d79 := drop_app d77 (leB_len _ _)
  have d81 := drop_app d79 (leB_len _ _)
  simp only [Nat.zero_add, Nat.reduceAdd] at d5 d37 d69 d73 d77 d79 d81
  refine ⟨?_, ?_, ?_, ?_, ?_, ?_, d81⟩
  · rw [d5]; exact List.take_left' h.wf.fl
  · rw [d37]; exact List.take_left' h.wf.gl
  · rw [d69, List.take_left' (leB_len _ _), deN_leB, hp]; have := hb.2; rw [hp] at this; omega
  · rw [d73, List.take_left' (leB_len _ _), deN_leB, hq]; have := hi.2; rw [hq] at this; omega
  · rw [d77, List.take_left' (leB_len _ _), deN_leB]; omega
  · rw [d79, List.take_left' (leB_len _ _), deN_leB]; omega
/-- One ref is read. -/
theorem step_ref {l T : List UInt8} {rs : List (Int × List UInt8)} {at_ k : Nat} (h : l.drop at_ = (rs.drop k).flatMap refL ++ T) (hk : k < rs.length) (h1 : ∀ r ∈ rs, 0 ≤ r.1 ∧ r.1 ≤ 65534) (h2 : ∀ r ∈ rs, r.2.length = 32) (hal : at_ ≤ l.length) :
    ∃ r, rs[k]? = some r ∧ ((deN ((l.drop at_).take 2) : Nat) : Int) = r.1 ∧ (l.drop (at_ + 2)).take 32 = r.2 ∧ l.drop (at_ + 34) = (rs.drop (k + 1)).flatMap refL ++ T ∧ at_ + 34 + T.length ≤ l.length := by
  have hr : rs[k]? = some rs[k] := List.getElem?_eq_getElem hk
  obtain ⟨r, hrr⟩ : ∃ r, rs[k] = r := ⟨_, rfl⟩
  rw [hrr] at hr
  have hm := List.mem_of_getElem? hr
  obtain ⟨a1, a2⟩ := h1 r hm
  have a3 := h2 r hm
  obtain ⟨n, hn⟩ := Int.eq_ofNat_of_zero_le a1
  rw [List.drop_eq_getElem_cons hk, hrr, List.flatMap_cons, List.append_assoc] at h
  have hh := h
  unfold refL at h
  rw [List.append_assoc] at h
  have d2 := drop_app h (leB_len _ _)
  have d34 := drop_app hh (refL_len a3)
  refine ⟨r, hr, ?_, ?_, d34, ?_⟩
  · rw [h, List.take_left' (leB_len _ _), hn, deN_leB]; omega
  · rw [d2]; exact List.take_left' a3
  · have := congrArg List.length d34
    rw [List.length_drop, List.length_append] at this
    have := congrArg List.length hh
    rw [List.length_drop, List.length_append, refL_len a3, List.length_append] at this
    omega
/-- One record is read. -/
theorem step_rec {l T : List UInt8} {xs : List Ins} {at_ k : Nat} (h : l.drop at_ = (xs.drop k).flatMap recL ++ T) (hk : k < xs.length) (h1 : ∀ x ∈ xs, FitI x) (hal : at_ ≤ l.length) :
    ∃ x m, xs[k]? = some x ∧ FitI x ∧ m = (bodyL x).length ∧ 7 ≤ m ∧ deN ((l.drop at_).take 1) = m ∧ (l.drop (at_ + 1)).take m = bodyL x ∧ l.drop (at_ + 5 + m) = (xs.drop (k + 1)).flatMap recL ++ T ∧ at_ + 5 + m + T.length ≤ l.length := by
  have hr : xs[k]? = some xs[k] := List.getElem?_eq_getElem hk
  obtain ⟨x, hx⟩ : ∃ r, xs[k] = r := ⟨_, rfl⟩
  rw [hx] at hr
  have hf := h1 x (List.mem_of_getElem? hr)
  have hbl := bodyL_len x
  have hpd := hf.pd
  rw [List.drop_eq_getElem_cons hk, hx, List.flatMap_cons, List.append_assoc] at h
  have hh := h
  unfold recL at h
  rw [List.append_assoc, List.append_assoc] at h
  have hrl : (recL x).length = 5 + (bodyL x).length := by rw [recL_len, hbl]; omega
  have d1 := drop_app h (leB_len _ _)
  have dE := drop_app hh hrl
  rw [← Nat.add_assoc] at dE
  refine ⟨x, (bodyL x).length, hr, hf, rfl, by omega, ?_, ?_, dE, ?_⟩
  · rw [h, List.take_left' (leB_len _ _), deN_leB]; omega
  · rw [d1]; exact List.take_left' rfl
  · have := congrArg List.length hh
    rw [List.length_drop, List.length_append, hrl, List.length_append] at this
    omega
theorem body_inj {x y : Ins} (hx : FitI x) (hy : FitI y) (h : bodyL x = bodyL y) : x = y := by
  have h1 := record_app (b := []) hx
  have h2 := record_app (b := []) hy
  have e : recL x = recL y := by unfold recL; rw [h]
  rw [e, h2] at h1
  injection h1 with h1
  exact h1.symm
end Go.Proofs.YtgeiegjpnnbloaaDoor
