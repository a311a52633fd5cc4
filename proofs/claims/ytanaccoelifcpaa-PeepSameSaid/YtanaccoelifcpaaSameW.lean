/- The weights of what Run makes of a list are among the list's own: plain. -/
import Derived.Test.YtanaccoelifcpaaFuseP
import Derived.Test.YtanaccoelifcpaaExact
namespace Go.Proofs.Ytanaccoelifcpaa
open Go.RowKit

/-- What a contract promises has come to be, for one. -/
theorem calls_one {P : Program} {f : FuncId} {args : Array Value} {w : World} {R : Ending → World → Prop} (h : Calls P f args w R) : ∃ e w', R e w' := by
  obtain ⟨e, w', _, hr, _⟩ := h []
  exact ⟨e, w', hr⟩
theorem parts_exact {t u : TV} {ds es : List ByteArray} (h : exactB t u ds es = true) : t.nodes = u.nodes ∧ t.files.map (·.mode) = u.files.map (·.mode) ∧ ds = es := by
  rw [exactB, Bool.and_eq_true, Bool.and_eq_true, decide_eq_true_eq, decide_eq_true_eq, decide_eq_true_eq] at h
  exact h
theorem sizes_of {W : World} {v : TV} {ds : List ByteArray} (h : TreeD W v ds) : v.files.map (·.n) = ds.map (·.size) := by
  apply List.ext_getElem?
  intro i
  rw [List.getElem?_map, List.getElem?_map]
  cases hx : v.files[i]? with
  | none =>
    have : ds[i]? = none := by rw [List.getElem?_eq_none_iff] at hx ⊢; rw [h.dat.len]; exact hx
    rw [this]; rfl
  | some x =>
    obtain ⟨d, hd, hs, _⟩ := h.dat.get hx
    rw [hd]; simp [hs]
theorem files_n {fs gs : List FC} (h : fs.map (·.n) = gs.map (·.n)) : filesB fs = filesB gs := by
  have e : ∀ l : List FC, filesB l = ((l.map (·.n)).map fW).sum := fun l => filesB_sizes l (l.map (·.n)) (by simp) (fun k f n h1 h2 => by rw [List.getElem?_map, h1] at h2; injection h2)
  rw [e, e, h]
theorem wgt_same {u v : TV} {es fs : List ByteArray} {w w' : World} (hu : TreeD w u es) (hv : TreeD w' v fs) (hx : exactB u v es fs = true) : wgtB u = wgtB v ∧ wgtI u = wgtI v := by
  obtain ⟨p1, _, p3⟩ := parts_exact hx
  have hn : u.files.map (·.n) = v.files.map (·.n) := by rw [sizes_of hu, sizes_of hv, p3]
  have hlen : u.files.length = v.files.length := by have := congrArg List.length hn; simpa using this
  refine ⟨?_, ?_⟩
  · unfold wgtB
    rw [p1, files_n hn]
  · unfold wgtI
    rw [p1, hlen]
theorem told_tree {M : PW} {u : TV} {es : List ByteArray} (h : TellsM M u es) : ∃ w, TreeD w u es := by
  obtain ⟨b, w, S, hT, rfl⟩ := h
  exact ⟨w, hT.tree⟩
/-- Worlds that look alike, and can be told, weigh the same. -/
theorem same_wgM {M N : PW} (hM : WOkP M) (hN : WOkP N) (hV : SameV M N) (h : ∃ u es, TellsM M u es) (k : ∃ u es, TellsM N u es) : wgM M = wgM N := by
  obtain ⟨u, es, hu⟩ := h
  obtain ⟨v, fs, hv⟩ := k
  obtain ⟨w, tu⟩ := told_tree hu
  obtain ⟨w', tv⟩ := told_tree hv
  obtain ⟨e1, e2⟩ := wgt_same tu tv (told_exactB hM hN hV hu hv)
  obtain ⟨a1, a2⟩ := told_weight hM hu
  obtain ⟨b1, b2⟩ := told_weight hN hv
  unfold wgM
  rw [← a1, ← a2, ← b1, ← b2, e1, e2]
/-- Each world on the way of a list that is done can be told. -/
theorem tells_way (t : TV) (ds : List ByteArray) (cs : List Cmd) (hco : ∀ c ∈ cs, OpOk c) (A : Option Addr) (n cap : Nat) (SA : Option Addr) (sn sc : Nat) (ss : List SC) (sd : List ByteArray) (w : World) (h : TreeD w t ds) (hl : looseE t = 0) (hA : Sl w w.heap.size 5 A n (cs.flatMap Cmd.list)) (hn : cs.length = n) (hn4 : n ≤ 4096) (hS : StockAt w SA sn ss sd) (hok : okR sd cs (openM t ds)) :
    ∀ X ∈ wayM sd cs (openM t ds), ∃ u es, TellsM X u es := fun X hX => by
  obtain ⟨k, hk, e⟩ := way_take sd cs (openM t ds) hok X hX
  have hA' : Sl w w.heap.size 5 A k ((cs.take k).flatMap Cmd.list) := by
    have h := hA.first (k := k) (by omega)
    rw [flat_take (f := Cmd.list) (fun _ => rfl)] at h
    exact h
  obtain ⟨_, w', u, S, _, hT, _⟩ := calls_one (Run_any t ds (cs.take k) (fun x hx => hco x (List.mem_of_mem_take hx)) A k cap SA sn sc ss sd w h hA' (by rw [List.length_take]; omega) (by omega) hS)
  have e2 : runR t ds (cs.take k) sd = runG sd (cs.take k) (openM t ds) 0 := by unfold runR; rw [if_pos hl]
  rw [e2, ← e 0] at hT
  exact ⟨u, _, hT.tells⟩
/-- All that the law asks, of two lists that play alike. -/
theorem same_law {t : TV} {ds sd : List ByteArray} {w : World} (hT : TreeD w t ds) {cs zs : List Cmd} (hL : Leads sd cs zs) (h0 : (runR t ds cs sd).2.2 = 0) :
    looseE t = 0 ∧ okR sd cs (openM t ds) ∧ okR sd zs (openM t ds) ∧ (runR t ds zs sd).2.2 = 0 ∧ SameV (runR t ds cs sd).1 (runR t ds zs sd).1 := by
  have hl : looseE t = 0 := by
    unfold runR at h0
    split at h0
    · assumption
    · exact h0
  have e : ∀ l, runR t ds l sd = runG sd l (openM t ds) 0 := fun l => by unfold runR; rw [if_pos hl]
  rw [e] at h0
  have hM := open_ok hT hl
  have h1 := (ok_run sd cs (openM t ds) 0).1 h0
  obtain ⟨r1, r2, _⟩ := hL _ _ hM hM (SameV.refl _) h1
  rw [e, e, end_run sd cs _ _ h1, end_run sd zs _ _ r1]
  exact ⟨hl, h1, r1, (ok_run sd zs _ 0).2 r1, r2⟩
theorem same_curve {t : TV} {ds sd : List ByteArray} {w : World} (hT : TreeD w t ds) {cs zs : List Cmd} (hL : Leads sd cs zs) (hl : looseE t = 0) (h1 : okR sd cs (openM t ds)) (h2 : okR sd zs (openM t ds)) (k1 : ∀ X ∈ wayM sd cs (openM t ds), ∃ u es, TellsM X u es) (k2 : ∀ X ∈ wayM sd zs (openM t ds), ∃ u es, TellsM X u es) :
    ∀ x ∈ curveR t ds zs sd, x ∈ curveR t ds cs sd := fun x hx => by
  have hM := open_ok hT hl
  unfold curveR at hx ⊢
  rw [if_pos hl, way_curve sd _ _ h2] at hx
  rw [if_pos hl, way_curve sd _ _ h1]
  obtain ⟨X, hX, rfl⟩ := List.mem_map.1 hx
  obtain ⟨Y, hY, e⟩ := (hL _ _ hM hM (SameV.refl _) h1).2.2 X hX
  exact List.mem_map.2 ⟨Y, hY, same_wgM (way_ok sd cs hM Y hY) (way_ok sd zs hM X hX) e (k1 Y hY) (k2 X hX)⟩
theorem same_small {t : TV} {ds sd : List ByteArray} {w : World} (hT : TreeD w t ds) {zs : List Cmd} (hl : looseE t = 0) (h2 : okR sd zs (openM t ds)) : ∀ x ∈ curveR t ds zs sd, x.1 < 4294967296 ∧ x.2 < 4294967296 := fun x hx => by
  have hM := open_ok hT hl
  unfold curveR at hx
  rw [if_pos hl, way_curve sd _ _ h2] at hx
  obtain ⟨X, hX, rfl⟩ := List.mem_map.1 hx
  have hXo := way_ok sd zs hM X hX
  obtain ⟨a, b⟩ := wgM_small hXo.inv hXo.len
  unfold wgM
  simp only
  omega
end Go.Proofs.Ytanaccoelifcpaa
