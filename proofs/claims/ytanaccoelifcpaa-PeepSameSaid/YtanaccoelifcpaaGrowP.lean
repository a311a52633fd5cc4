/- What a world weighs, and what an instruction adds to it. -/
import Derived.Test.YtanaccoelifcpaaViews
import Derived.Test.YtanaccoelifcpaaRWeight
namespace Go.Proofs.Ytanaccoelifcpaa
open Go.RowKit

theorem kidN_C (l : List Node) (p : ByteArray) : kidN l p = kidsC l p := by
  unfold kidN kidsC
  rw [picks_count]
  refine List.countP_congr fun x _ => ?_
  rw [kidsF_iff]
  simp only [decide_eq_true_eq]
  exact ⟨fun h => ba_ext h, fun h => by rw [h]⟩
/-- The directories: the root, and those that stand in the list. -/
def dirL (l : List Node) : List ByteArray := ByteArray.empty :: (l.filter fun x => decide (x.file < 0)).map (·.path)
def dirsW (l : List Node) : Nat := ((dirL l).map fun p => dW (kidsC l p)).sum
def filesW (fs : List PF) : Nat := (fs.map fun f => fW f.data.size).sum
def mB (M : PW) : Nat := dirsW M.nodes + filesW M.files
def mI (M : PW) : Nat := (dirL M.nodes).length + M.files.length
theorem sum_perm {l m : List Nat} (h : l.Perm m) : l.sum = m.sum := h.sum_nat
theorem dirL_perm {l m : List Node} (h : l.Perm m) : (dirL l).Perm (dirL m) := ((h.filter _).map _).cons _
theorem kidsC_perm {l m : List Node} (h : l.Perm m) (p : ByteArray) : kidsC l p = kidsC m p := h.countP_eq _
theorem dirsW_perm {l m : List Node} (h : l.Perm m) : dirsW l = dirsW m := by
  unfold dirsW
  have e : (fun p => dW (kidsC l p)) = fun p => dW (kidsC m p) := funext fun p => by rw [kidsC_perm h]
  rw [e]
  exact sum_perm ((dirL_perm h).map _)
theorem dirL_nodup {l : List Node} (hA : Apart l) (hv : ∀ x ∈ l, validL (pathL x) = true) : (dirL l).Nodup := by
  rw [dirL, List.nodup_cons]
  refine ⟨fun h => ?_, hA.sublist (List.filter_sublist.map _)⟩
  obtain ⟨x, hx, e⟩ := List.mem_map.1 h
  have := hv x (List.mem_filter.1 hx).1
  rw [pathL, e] at this
  exact absurd rfl (valid_ne this)
theorem dirIn_mem {l : List Node} {q : ByteArray} (h : DirIn l q.data.toList) : q ∈ dirL l := by
  rcases h with h | ⟨y, hy, e1, e2⟩
  · rw [show q = ByteArray.empty from ba_ext h]; exact List.mem_cons_self ..
  · refine List.mem_cons_of_mem _ (List.mem_map.2 ⟨y, List.mem_filter.2 ⟨hy, by simp; omega⟩, ?_⟩)
    exact ba_ext e1
theorem sum_bump {f g : ByteArray → Nat} {q : ByteArray} : ∀ {l : List ByteArray}, l.Nodup → q ∈ l → (∀ p, p ≠ q → g p = f p) → (l.map g).sum + f q = (l.map f).sum + g q
  | [], _, h, _ => by cases h
  | a :: t, hn, h, hfg => by
    obtain ⟨n1, n2⟩ := List.nodup_cons.1 hn
    simp only [List.map_cons, List.sum_cons]
    rcases List.mem_cons.1 h with rfl | h
    · have e : t.map g = t.map f := List.map_congr_left fun p hp => hfg p fun e => n1 (e ▸ hp)
      rw [e]; omega
    · have hne : a ≠ q := fun e => n1 (e ▸ h)
      have := sum_bump n2 h hfg
      rw [hfg a hne]; omega
theorem dW_step (k : Nat) : dW (k + 1) = dW k ∨ dW (k + 1) = dW k + 1 := by unfold dW; omega
theorem dirL_snoc (l : List Node) (x : Node) : dirL (l ++ [x]) = dirL l ++ (if x.file < 0 then [x.path] else []) := by
  unfold dirL
  rw [List.filter_append, List.map_append, List.cons_append]
  congr 2
  by_cases h : x.file < 0
  · simp [h]
  · simp [h]
/-- One node more: at most one block more for its directory, and one for itself. -/
theorem dirsW_snoc {l : List Node} (hA : Apart l) (hv : ∀ x ∈ l, validL (pathL x) = true) {x : Node} (hd : DirIn l (parentB x.path).data.toList) (hvx : validL (pathL x) = true) (hk : x.file < 0 → kidsC l x.path = 0) :
    ∃ d, d ≤ 1 ∧ dirsW (l ++ [x]) = dirsW l + d + if x.file < 0 then 1 else 0 := by
  have hpar := dirIn_mem hd
  have hb := sum_bump (f := fun p => dW (kidsC l p)) (g := fun p => dW (kidsC (l ++ [x]) p)) (dirL_nodup hA hv) hpar fun p hp => by
    simp only [kidsC_snoc]; rw [if_neg (fun e => hp e.symm)]; rfl
  simp only [kidsC_snoc, if_true] at hb
  have hs := dW_step (kidsC l (parentB x.path))
  refine ⟨dW (kidsC l (parentB x.path) + 1) - dW (kidsC l (parentB x.path)), by omega, ?_⟩
  unfold dirsW
  rw [dirL_snoc, List.map_append, List.sum_append]
  simp only [kidsC_snoc]
  have hself : ((if x.file < 0 then [x.path] else []).map fun p => dW (kidsC l p + if parentB x.path = p then 1 else 0)).sum = if x.file < 0 then 1 else 0 := by
    split
    · rename_i h
      have hne : ¬ parentB x.path = x.path := fun e => by
        have := parent_lt hvx
        rw [e] at this
        exact lt_irr _ this
      simp only [List.map_cons, List.map_nil, List.sum_cons, List.sum_nil, if_neg hne, hk h]
      rfl
    · rfl
  rw [hself]
  omega
theorem dirL_len_snoc (l : List Node) (x : Node) : (dirL (l ++ [x])).length = (dirL l).length + if x.file < 0 then 1 else 0 := by
  rw [dirL_snoc, List.length_append]
  split <;> rfl
theorem no_kids_at {M : PW} (hI : M.Inv) {p : ByteArray} (hv : validL p.data.toList = true) (hn : nodeAt M.nodes p = none) : kidsC M.nodes p = 0 := by
  unfold kidsC
  rw [List.countP_eq_zero]
  intro z hz
  simp only [decide_eq_true_eq]
  intro e
  rcases hI.dir z hz with h1 | ⟨y, hy, h1, _⟩
  · rw [e] at h1; exact valid_ne hv h1
  · have : y.path = p := ba_ext (by rw [show y.path.data.toList = pathL y from rfl, h1, e])
    exact nodeAt_none.1 hn y hy this
theorem noPath_perm {l : List Node} (hA : Apart l) {x : Node} (hx : x ∈ l) : l.Perm (noPath l x.path ++ [x]) := by
  have h1 : ∀ y ∈ l, y.path = x.path → y = x := fun y hy e => apart_inj hA hy hx e
  induction l with
  | nil => cases hx
  | cons a t ih =>
    simp only [Apart, List.map_cons, List.nodup_cons] at hA
    by_cases e : a.path = x.path
    · have ea := h1 a (by simp) e
      subst ea
      have e2 : noPath (a :: t) a.path = t := by
        unfold noPath
        rw [List.filter_cons]
        simp only [decide_true, Bool.not_true, Bool.false_eq_true, if_false]
        rw [List.filter_eq_self]
        intro y hy
        simp only [Bool.not_eq_true', decide_eq_false_iff_not]
        exact fun e2 => hA.1 (List.mem_map.2 ⟨y, hy, e2⟩)
      rw [e2]
      exact (List.perm_append_singleton a t).symm
    · have hxt : x ∈ t := (List.mem_cons.1 hx).resolve_left fun h => e (by rw [h])
      have e2 : noPath (a :: t) x.path = a :: noPath t x.path := by
        unfold noPath
        rw [List.filter_cons]
        simp [e]
      rw [e2, List.cons_append]
      exact (ih hA.2 hxt (fun y hy => h1 y (List.mem_cons_of_mem _ hy))).cons a
/-- One node less. -/
theorem dirsW_take {M : PW} (hI : M.Inv) {x : Node} (hx : x ∈ M.nodes) (hk : x.file < 0 → kidsC M.nodes x.path = 0) :
    ∃ d, d ≤ 1 ∧ dirsW M.nodes = dirsW (noPath M.nodes x.path) + d + (if x.file < 0 then 1 else 0) ∧ (dirL M.nodes).length = (dirL (noPath M.nodes x.path)).length + if x.file < 0 then 1 else 0 := by
  have hp := noPath_perm hI.apart hx
  have hA : Apart (noPath M.nodes x.path) := hI.apart.sublist (List.filter_sublist.map _)
  have hne : ¬ parentB x.path = x.path := fun e => by
    have := parent_lt (hI.valid x hx)
    rw [e] at this
    exact lt_irr _ this
  have hd : DirIn (noPath M.nodes x.path) (parentB x.path).data.toList := by
    rcases hI.dir x hx with h | ⟨z, hz, h1, h2⟩
    · exact .inl h
    · exact .inr ⟨z, noPath_mem.2 ⟨hz, fun e => hne ((ba_ext (show (parentB x.path).data.toList = z.path.data.toList from h1.symm)).trans e)⟩, h1, h2⟩
  have hk2 : x.file < 0 → kidsC (noPath M.nodes x.path) x.path = 0 := fun h => by
    have h1 := hk h
    unfold kidsC at h1 ⊢
    rw [List.countP_eq_zero] at h1 ⊢
    exact fun y hy => h1 y (noPath_mem.1 hy).1
  obtain ⟨d, hd1, hd2⟩ := dirsW_snoc hA (fun y hy => hI.valid y (noPath_mem.1 hy).1) hd (hI.valid x hx) hk2
  refine ⟨d, hd1, ?_, ?_⟩
  · rw [dirsW_perm hp, hd2]
  · rw [(dirL_perm hp).length_eq, dirL_len_snoc]
theorem filesW_filter {fs : List PF} (hn : (fs.map (·.id)).Nodup) {f : PF} (hf : f ∈ fs) : filesW fs = filesW (fs.filter fun g => !decide (g.id = f.id)) + fW f.data.size ∧ fs.length = (fs.filter fun g => !decide (g.id = f.id)).length + 1 := by
  induction fs with
  | nil => cases hf
  | cons a t ih =>
    simp only [List.map_cons, List.nodup_cons] at hn
    by_cases e : a.id = f.id
    · have ea : a = f := by
        rcases List.mem_cons.1 hf with h | h
        · exact h.symm
        · exact absurd (List.mem_map.2 ⟨f, h, e.symm⟩) hn.1
      subst ea
      have e2 : (a :: t).filter (fun g => !decide (g.id = a.id)) = t := by
        rw [List.filter_cons]
        simp only [decide_true, Bool.not_true, Bool.false_eq_true, if_false]
        rw [List.filter_eq_self]
        intro y hy
        simp only [Bool.not_eq_true', decide_eq_false_iff_not]
        exact fun e2 => hn.1 (List.mem_map.2 ⟨y, hy, e2⟩)
      rw [e2]
      refine ⟨?_, rfl⟩
      simp only [filesW, List.map_cons, List.sum_cons]
      omega
    · have hft : f ∈ t := (List.mem_cons.1 hf).resolve_left fun h => e (by rw [h])
      have e2 : (a :: t).filter (fun g => !decide (g.id = f.id)) = a :: t.filter (fun g => !decide (g.id = f.id)) := by
        rw [List.filter_cons]
        simp [e]
      rw [e2]
      obtain ⟨h1, h2⟩ := ih hn.2 hft
      refine ⟨?_, by rw [List.length_cons, List.length_cons, h2]⟩
      simp only [filesW, List.map_cons, List.sum_cons] at h1 ⊢
      omega
theorem find_id : ∀ {fs : List PF}, (fs.map (·.id)).Nodup → ∀ {f : PF}, f ∈ fs → fs.find? (fun g => decide (g.id = f.id)) = some f
  | [], _, _, h => by cases h
  | a :: t, hn, f, h => by
    simp only [List.map_cons, List.nodup_cons] at hn
    by_cases e : a.id = f.id
    · have ea : a = f := by
        rcases List.mem_cons.1 h with h | h
        · exact h.symm
        · exact absurd (List.mem_map.2 ⟨f, h, e.symm⟩) hn.1
      rw [List.find?_cons_of_pos (by simp [e]), ea]
    · rw [List.find?_cons_of_neg (by simp [e])]
      exact find_id hn.2 ((List.mem_cons.1 h).resolve_left fun h => e (by rw [h]))
/-- What an instruction that is done adds to what a world weighs. -/
theorem grow_do {M : PW} (hM : WOkP M) {c : Cmd} {sd : List ByteArray} (h : doE M c sd = 0) :
    ((c.op = 8 ∨ c.op = 9) → mB (doM M c sd) = mB M ∧ mI (doM M c sd) = mI M) ∧
    (c.op = 3 → mI (doM M c sd) = mI M ∧ mB (doM M c sd) ≤ mB M + 1 ∧ mB M ≤ mB (doM M c sd) + 1) ∧
    (c.op = 4 → mI (doM M c sd) = mI M ∧ (mB (doM M c sd) = mB M ∨ mB (doM M c sd) = mB M + 1)) ∧
    (c.op = 1 → mI (doM M c sd) = mI M + 1 ∧ (mB (doM M c sd) = mB M + 1 ∨ mB (doM M c sd) = mB M + 2)) ∧
    (c.op = 2 → mI M = mI (doM M c sd) + 1 ∧ (mB M = mB (doM M c sd) + 1 ∨ mB M = mB (doM M c sd) + 2)) ∧
    (c.op = 6 → mI (doM M c sd) = mI M + 1 ∧ (mB (doM M c sd) = mB M + fW (refData c sd).size ∨ mB (doM M c sd) = mB M + fW (refData c sd).size + 1)) ∧
    (c.op = 7 → ∃ x, nodeAt M.nodes c.path = some x ∧ 0 ≤ x.file ∧ mI (doM M c sd) = mI M + 1 ∧ (mB (doM M c sd) = mB M + fW (dataOf M x.file).size ∨ mB (doM M c sd) = mB M + fW (dataOf M x.file).size + 1)) ∧
    (c.op = 5 → ∃ x, nodeAt M.nodes c.path = some x ∧ 0 ≤ x.file ∧ (1 < namesC M.nodes x.file → mI (doM M c sd) = mI M ∧ (mB M = mB (doM M c sd) ∨ mB M = mB (doM M c sd) + 1)) ∧
      (¬ 1 < namesC M.nodes x.file → mI M = mI (doM M c sd) + 1 ∧ (mB M = mB (doM M c sd) + fW (dataOf M x.file).size ∨ mB M = mB (doM M c sd) + fW (dataOf M x.file).size + 1))) := by
  have hI := hM.inv
  obtain ⟨hop, h'⟩ := (do0_iff M c sd).1 h
  have hop' : 1 ≤ c.op ∧ c.op ≤ 9 := by simpa [isOp] using hop
  have both : c.op = 3 ∨ c.op = 4 ∨ c.op = 7 → ∃ x, nodeAt M.nodes c.path = some x ∧ x ∈ M.nodes ∧ x.path = c.path ∧ 0 ≤ x.file ∧ lookF M.nodes c.path = x.file ∧ nodeAt M.nodes c.dst = none ∧ DirIn M.nodes (parentB c.dst).data.toList ∧ validL c.dst.data.toList = true ∧ x.file ∈ M.files.map (·.id) := fun h3 => by
    obtain ⟨f1, _, hv⟩ := h'.resolve_left (by omega)
    unfold vOp at hv
    rw [if_neg (by omega), if_neg (by omega), if_neg (by omega), if_neg (by omega)] at hv
    obtain ⟨⟨h1, h2⟩, h4, h5⟩ := hv
    obtain ⟨x, hx, h0⟩ := isF_iff.1 (show isF (kindL M.nodes M.F c.path) = true from h2)
    obtain ⟨hm, hp⟩ := nodeAt_some hx
    exact ⟨x, hx, hm, hp, h0, lookF_at (pre0_iff.2 ⟨h1, fun e => by rw [e] at h2; cases h2⟩) hx, none_at h5, abs_dir hI (abs0_iff.2 ⟨h4, h5⟩), (first0 f1).2.2.1 (by simp [toB]; omega), (hI.file hm).resolve_left (by omega)⟩
  have vac : c.op = 1 ∨ c.op = 6 → nodeAt M.nodes c.path = none ∧ DirIn M.nodes (parentB c.path).data.toList ∧ validL c.path.data.toList = true := fun h1 => by
    obtain ⟨f1, _, hv⟩ := h'.resolve_left (by omega)
    unfold vOp at hv
    rw [if_pos h1] at hv
    exact ⟨none_at hv.2, abs_dir hI (abs0_iff.2 hv), (first0 f1).2.1⟩
  have hdo : c.op ≠ 9 → doM M c sd = opM M c sd := fun h9 => by unfold doM; rw [if_pos ⟨h, h9⟩]
  refine ⟨fun e => ?_, fun e => ?_, fun e => ?_, fun e => ?_, fun e => ?_, fun e => ?_, fun e => ?_, fun e => ?_⟩
  · rcases e with e | e
    · rw [hdo (by omega)]
      unfold opM
      rw [if_neg (by omega), if_neg (by omega), if_neg (by omega), if_neg (by omega), if_neg (by omega), if_neg (by omega)]
      unfold PW.chmod
      split
      · rename_i x hx
        split
        · rename_i hneg
          obtain ⟨hxm, hxp⟩ := nodeAt_some hx
          have huq : ∀ y ∈ M.nodes, y.path = c.path → y.file < 0 := fun y hy e => by rw [apart_inj hI.apart hy hxm (e.trans hxp.symm)]; exact hneg
          have hk : ∀ p, kidsC (chmodN M.nodes c.path c.mode) p = kidsC M.nodes p := fun p => by
            unfold kidsC chmodN
            rw [List.countP_map]
            refine List.countP_congr fun y _ => ?_
            simp only [Function.comp]
            split <;> rfl
          have hd : dirL (chmodN M.nodes c.path c.mode) = dirL M.nodes := by
            unfold dirL chmodN
            congr 1
            rw [List.filter_map, List.map_map]
            have e1 : M.nodes.filter ((fun x : Node => decide (x.file < 0)) ∘ fun x => if x.path = c.path then (⟨x.path, -1, c.mode, x.hp⟩ : Node) else x) = M.nodes.filter fun x => decide (x.file < 0) := by
              refine List.filter_congr fun y hy => ?_
              simp only [Function.comp]
              split
              · rename_i e2
                have := huq y hy e2
                simp [this]
              · rfl
            rw [e1]
            refine List.map_congr_left fun y _ => ?_
            simp only [Function.comp]
            split <;> rfl
          constructor
          · simp only [mB, dirsW, hd]
            congr 1
            congr 1
            exact List.map_congr_left fun p _ => by rw [hk p]
          · simp only [mI, hd]
        · constructor
          · simp only [mB, filesW, chmodF, List.map_map]
            congr 2
            refine List.map_congr_left fun f _ => ?_
            simp only [Function.comp]
            split <;> rfl
          · simp [mI, chmodF]
      · exact ⟨rfl, rfl⟩
    · have : doM M c sd = M := by unfold doM; rw [if_neg (fun h => h.2 e)]
      rw [this]; exact ⟨rfl, rfl⟩
  · obtain ⟨x, hx, hm, hp, h0, e1, hn, hdd, hvd, hfi⟩ := both (.inl e)
    rw [hdo (by omega)]
    unfold opM
    rw [if_neg (by omega), if_neg (by omega), if_pos e]
    have hput := inv_put (x := ⟨c.dst, lookF M.nodes c.path, 0, c.hd⟩) hI hn hvd hdd (.inr ⟨by simp only; omega, rfl, by simp only [e1]; exact hfi⟩)
    have hm2 : x ∈ (M.put ⟨c.dst, lookF M.nodes c.path, 0, c.hd⟩).nodes := List.mem_append.2 (.inl hm)
    have hat : nodeAt (M.put ⟨c.dst, lookF M.nodes c.path, 0, c.hd⟩).nodes c.path = some x := (nodeAt_iff hput.apart).2 ⟨hm2, hp⟩
    simp only [PW.takeAt, hat]
    obtain ⟨d1, hd1, k1⟩ := dirsW_snoc (x := ⟨c.dst, lookF M.nodes c.path, 0, c.hd⟩) hI.apart hI.valid hdd hvd (fun h => by simp only at h; omega)
    obtain ⟨d2, hd2, k2, k3⟩ := dirsW_take hput hm2 (fun h => by omega)
    have hl := dirL_len_snoc M.nodes ⟨c.dst, lookF M.nodes c.path, 0, c.hd⟩
    have hf : ((M.put ⟨c.dst, lookF M.nodes c.path, 0, c.hd⟩).take x).files = M.files := by
      simp only [PW.take]
      rw [if_neg]
      · rfl
      · rintro ⟨_, h2⟩
        rw [namesC, List.countP_eq_zero] at h2
        have hdm : (⟨c.dst, lookF M.nodes c.path, 0, c.hd⟩ : Node) ∈ noPath (M.put ⟨c.dst, lookF M.nodes c.path, 0, c.hd⟩).nodes x.path := by
          refine noPath_mem.2 ⟨List.mem_append.2 (.inr (by simp)), fun e2 => ?_⟩
          simp only at e2
          exact nodeAt_none.1 hn x hm e2.symm
        exact h2 _ hdm (by simp [e1])
    rw [if_neg (by simp only; omega)] at k1 hl
    rw [if_neg (by omega)] at k2 k3
    simp only [mI, mB, hf]
    simp only [PW.take]
    simp only [PW.put] at k1 k2 k3 hl ⊢
    omega
  · obtain ⟨x, hx, hm, hp, h0, e1, hn, hdd, hvd, hfi⟩ := both (.inr (.inl e))
    rw [hdo (by omega)]
    unfold opM
    rw [if_neg (by omega), if_neg (by omega), if_neg (by omega), if_pos e]
    obtain ⟨d1, hd1, k1⟩ := dirsW_snoc (x := ⟨c.dst, lookF M.nodes c.path, 0, c.hd⟩) hI.apart hI.valid hdd hvd (fun h => by simp only at h; omega)
    have hl := dirL_len_snoc M.nodes ⟨c.dst, lookF M.nodes c.path, 0, c.hd⟩
    rw [if_neg (by simp only; omega)] at k1 hl
    simp only [mI, mB, PW.put]
    omega
  · obtain ⟨hn, hdd, hv⟩ := vac (.inl e)
    rw [hdo (by omega)]
    unfold opM
    rw [if_pos e]
    obtain ⟨d1, hd1, k1⟩ := dirsW_snoc (x := ⟨c.path, -1, c.mode, c.hp⟩) hI.apart hI.valid hdd hv (fun _ => no_kids_at hI hv hn)
    have hl := dirL_len_snoc M.nodes ⟨c.path, -1, c.mode, c.hp⟩
    rw [if_pos (by show (-1 : Int) < 0; decide)] at k1 hl
    simp only [mI, mB, PW.put]
    omega
  · obtain ⟨f1, _, hv⟩ := h'.resolve_left (by omega)
    unfold vOp at hv
    rw [if_neg (by omega), if_pos e] at hv
    obtain ⟨x, hx, hneg⟩ := isD_iff.1 (show isD (kindL M.nodes M.F c.path) = true from hv.2.1)
    obtain ⟨hm, hp⟩ := nodeAt_some hx
    rw [hdo (by omega)]
    unfold opM
    rw [if_neg (by omega), if_pos (.inl e)]
    simp only [PW.takeAt, hx]
    obtain ⟨d, hd, k1, k2⟩ := dirsW_take hI hm (fun _ => by rw [hp]; exact kids0_iff.2 hv.2.2)
    rw [if_pos hneg] at k1 k2
    have hf : (M.take x).files = M.files := by
      simp only [PW.take]
      rw [if_neg (fun h => by omega)]
    simp only [mI, mB, hf]
    simp only [PW.take]
    omega
  · obtain ⟨hn, hdd, hv⟩ := vac (.inr e)
    rw [hdo (by omega)]
    unfold opM
    rw [if_neg (by omega), if_neg (by omega), if_neg (by omega), if_neg (by omega), if_pos e]
    have hn0 := hI.n0
    obtain ⟨d1, hd1, k1⟩ := dirsW_snoc (x := ⟨c.path, M.next, 0, c.hp⟩) hI.apart hI.valid hdd hv (fun h => by simp only at h; omega)
    have hl := dirL_len_snoc M.nodes ⟨c.path, M.next, 0, c.hp⟩
    rw [if_neg (by simp only; omega)] at k1 hl
    simp only [mI, mB, PW.made, filesW, List.map_append, List.map_singleton, sum_snoc, List.length_append, List.length_cons, List.length_nil]
    omega
  · obtain ⟨x, hx, hm, hp, h0, e1, hn, hdd, hvd, hfi⟩ := both (.inr (.inr e))
    refine ⟨x, hx, h0, ?_⟩
    rw [hdo (by omega)]
    unfold opM
    rw [if_neg (by omega), if_neg (by omega), if_neg (by omega), if_neg (by omega), if_neg (by omega), if_pos e, e1]
    have hn0 := hI.n0
    obtain ⟨d1, hd1, k1⟩ := dirsW_snoc (x := ⟨c.dst, M.next, 0, c.hd⟩) hI.apart hI.valid hdd hvd (fun h => by simp only at h; omega)
    have hl := dirL_len_snoc M.nodes ⟨c.dst, M.next, 0, c.hd⟩
    rw [if_neg (by simp only; omega)] at k1 hl
    simp only [mI, mB, PW.made, filesW, List.map_append, List.map_singleton, sum_snoc, List.length_append, List.length_cons, List.length_nil]
    omega
  · obtain ⟨f1, _, hv⟩ := h'.resolve_left (by omega)
    unfold vOp at hv
    rw [if_neg (by omega), if_neg (by omega), if_pos e] at hv
    obtain ⟨x, hx, h0⟩ := isF_iff.1 (show isF (kindL M.nodes M.F c.path) = true from hv.2)
    obtain ⟨hm, hp⟩ := nodeAt_some hx
    refine ⟨x, hx, h0, ?_⟩
    rw [hdo (by omega)]
    unfold opM
    rw [if_neg (by omega), if_pos (.inr e)]
    simp only [PW.takeAt, hx]
    obtain ⟨d, hd, k1, k2⟩ := dirsW_take hI hm (fun h => by omega)
    rw [if_neg (by omega)] at k1 k2
    have hc := count_no (fun y => decide (y.file = x.file)) hI.apart hm
    simp only [decide_true, if_true] at hc
    have hc' : namesC M.nodes x.file = namesC (noPath M.nodes x.path) x.file + 1 := hc
    constructor
    · intro h1
      have hf : (M.take x).files = M.files := by
        simp only [PW.take]
        rw [if_neg (fun h => by omega)]
      simp only [mI, mB, hf]
      simp only [PW.take]
      omega
    · intro h1
      have hf : (M.take x).files = M.files.filter (fun f => !decide (f.id = x.file)) := by
        simp only [PW.take]
        rw [if_pos ⟨h0, by omega⟩]
      obtain ⟨f, hff, hfe⟩ := List.mem_map.1 ((hI.file hm).resolve_left (by omega))
      have hfw := filesW_filter hI.ids hff
      rw [hfe] at hfw
      have hdata : dataOf M x.file = f.data := by
        unfold dataOf
        have : fileOf M x.file = some f := by
          unfold fileOf
          rw [← hfe]
          exact find_id hI.ids hff
        rw [this]; rfl
      rw [hdata]
      simp only [mI, mB, hf]
      simp only [PW.take]
      omega

theorem dirsB_filter (all : List Node) : ∀ l : List Node, (∀ x ∈ l, x.file = -1 ∨ 0 ≤ x.file) → dirsB all l = ((l.filter fun x => decide (x.file < 0)).map fun x => dW (kidsC all x.path)).sum ∧ dirsI l = (l.filter fun x => decide (x.file < 0)).length
  | [], _ => ⟨rfl, rfl⟩
  | x :: t, h => by
    obtain ⟨h1, h2⟩ := dirsB_filter all t fun y hy => h y (List.mem_cons_of_mem _ hy)
    unfold dirsB at h1
    unfold dirsI at h2
    unfold dirsB dirsI
    simp only [List.map_cons, List.sum_cons]
    rcases h x (by simp) with e | e
    · rw [if_pos e, if_pos e, List.filter_cons_of_pos (by simp; omega), List.map_cons, List.sum_cons, List.length_cons, h1, h2, kidN_C]
      exact ⟨rfl, by omega⟩
    · rw [if_neg (by omega), if_neg (by omega), List.filter_cons_of_neg (by simp; omega), h1, h2]
      exact ⟨by omega, by omega⟩
theorem wgt_dirs (t : TV) (h : ∀ x ∈ t.nodes, x.file = -1 ∨ 0 ≤ x.file) : wgtB t = dirsW t.nodes + filesB t.files ∧ wgtI t = (dirL t.nodes).length + t.files.length := by
  obtain ⟨h1, h2⟩ := dirsB_filter t.nodes t.nodes h
  constructor
  · unfold wgtB dirsW dirL
    rw [h1, kidN_C, List.map_cons, List.sum_cons, List.map_map]
    rfl
  · unfold wgtI dirL
    rw [h2, List.length_cons, List.length_map]
    omega
theorem dirs_re (ids : List Int) (S : List Node) : dirsW (S.map (reN ids)) = dirsW S ∧ (dirL (S.map (reN ids))).length = (dirL S).length := by
  have hk : ∀ p, kidsC (S.map (reN ids)) p = kidsC S p := fun p => by
    unfold kidsC
    rw [List.countP_map]
    exact List.countP_congr fun x _ => by simp [reN_path]
  have hd : dirL (S.map (reN ids)) = dirL S := by
    unfold dirL
    congr 1
    rw [List.filter_map, List.map_map]
    have e1 : S.filter ((fun x : Node => decide (x.file < 0)) ∘ reN ids) = S.filter fun x => decide (x.file < 0) := by
      refine List.filter_congr fun y _ => ?_
      simp only [Function.comp]
      by_cases c : y.file < 0
      · rw [reN_dir c]
      · rw [reN_file (by omega)]; simp; omega
    rw [e1]
    exact List.map_congr_left fun y _ => reN_path _ _
  refine ⟨?_, by rw [hd]⟩
  unfold dirsW
  rw [hd]
  congr 1
  exact List.map_congr_left fun p _ => by rw [hk p]
theorem F_of {M : PW} (hI : M.Inv) {f : PF} (hf : f ∈ M.files) : M.F f.id = (f.mode, f.data) := by
  unfold PW.F fileOf
  rw [find_id hI.ids hf]; rfl
theorem files_told {M : PW} (hI : M.Inv) {S : List Node} (hS : S.Perm M.nodes) : ((idsL S).map fun i => fW (M.F i).2.size).sum = filesW M.files ∧ (idsL S).length = M.files.length := by
  have hp : (idsL S).Perm (M.files.map (·.id)) := perm_mem (idsL_nodup S) hI.ids fun i => by
    rw [idsL_mem]
    constructor
    · rintro ⟨h0, x, hx, e⟩
      rcases hI.file (hS.mem_iff.1 hx) with h | h
      · omega
      · rw [← e]; exact h
    · intro h
      obtain ⟨f, hf, e⟩ := List.mem_map.1 h
      obtain ⟨x, hx, e2⟩ := hI.hit f hf
      have := (hI.fbd f hf).1
      exact ⟨by omega, x, hS.mem_iff.2 hx, by rw [e2, e]⟩
  constructor
  · rw [sum_perm (hp.map _), List.map_map]
    unfold filesW
    congr 1
    refine List.map_congr_left fun f hf => ?_
    simp only [Function.comp]
    rw [F_of hI hf]
  · rw [hp.length_eq, List.length_map]
theorem filesB_sizes : ∀ (fs : List FC) (ns : List Nat), fs.length = ns.length → (∀ (k : Nat) (f : FC) (n : Nat), fs[k]? = some f → ns[k]? = some n → f.n = n) → filesB fs = (ns.map fW).sum
  | [], [], _, _ => rfl
  | [], _ :: _, h, _ => by cases h
  | _ :: _, [], h, _ => by cases h
  | f :: fs, n :: ns, h, hk => by
    have ih := filesB_sizes fs ns (by simpa using h) fun k f' n' h1 h2 => hk (k + 1) f' n' (by simpa using h1) (by simpa using h2)
    have e := hk 0 f n rfl rfl
    unfold filesB at ih ⊢
    rw [List.map_cons, List.sum_cons, List.map_cons, List.sum_cons, ih, e]
/-- A told tree weighs what the world does. -/
theorem told_weight {M : PW} (hM : WOkP M) {u : TV} {es : List ByteArray} (h : TellsM M u es) : wgtB u = mB M ∧ wgtI u = mI M := by
  obtain ⟨b, w, S, h, rfl⟩ := h
  have hL := told_loose hM.inv hM.len h
  obtain ⟨h1, h2⟩ := wgt_dirs u fun x hx => (hL.good.kind x hx).imp (·.1) (·.1)
  obtain ⟨d1, d2⟩ := dirs_re (idsL S) S
  obtain ⟨f1, f2⟩ := files_told hM.inv h.perm
  have hfs : filesB u.files = filesW M.files := by
    rw [filesB_sizes u.files ((idsL S).map fun i => (M.F i).2.size) (by rw [List.length_map, h.fl, h.fn]) fun k f n hf hn => ?_]
    · rw [List.map_map]; exact f1
    · rw [List.getElem?_map] at hn
      cases hi : (idsL S)[k]? with
      | none => rw [hi] at hn; cases hn
      | some i =>
        rw [hi] at hn
        injection hn with hn
        have := (h.rows.row k f _ hf (by rw [List.getElem?_map, hi]; rfl)).1
        rw [this]; exact hn
  rw [h1, h2, hfs, h.nodes, d1, d2, dirsW_perm h.perm, (dirL_perm h.perm).length_eq, h.fl, h.fn, f2]
  exact ⟨rfl, rfl⟩
theorem open_weight {t : TV} {ds : List ByteArray} {w : World} (hT : TreeD w t ds) (hl : looseE t = 0) : wgtB t = mB (openM t ds) ∧ wgtI t = mI (openM t ds) := by
  have hG := good_of_loose hl
  obtain ⟨h1, h2⟩ := wgt_dirs t fun x hx => (hG.kind x hx).imp (·.1) (·.1)
  have hfs : filesB t.files = filesW (filesP t ds t.fn) := by
    rw [filesB_sizes t.files ((List.range t.fn).map fun (i : Nat) => (treeF t ds (i : Int)).2.size) (by rw [List.length_map, List.length_range, hT.tree.fl]) fun k f n hf hn => ?_]
    · unfold filesW filesP
      rw [List.map_map, List.map_map]
      rfl
    · obtain ⟨d, hd, e, _⟩ := hT.dat.get hf
      rw [List.getElem?_map] at hn
      have hk : k < t.fn := by rw [← hT.tree.fl]; exact (List.getElem?_eq_some_iff.1 hf).1
      rw [List.getElem?_range hk] at hn
      injection hn with hn
      have hn : (treeF t ds (k : Int)).2.size = n := hn
      rw [treeF_at hf hd] at hn
      rw [← hn, ← e]
  rw [h1, h2, hfs]
  refine ⟨rfl, ?_⟩
  unfold mI openM filesP
  rw [List.length_map, List.length_range, hT.tree.fl]
/-- The node of a path, and its file, in a tree. -/
structure FileAt (t : TV) (p : ByteArray) (k : Nat) (x : Node) (fx : Nat) (f : FC) : Prop where
  find : findI t.nodes p = k
  at_ : t.nodes[k]? = some x
  file : x.file = fx
  fat : t.files[fx]? = some f
theorem fileAt_of {t : TV} {ds : List ByteArray} {w : World} (hT : TreeD w t ds) (hl : looseE t = 0) {p : ByteArray} {x : Node} (hx : nodeAt t.nodes p = some x) (h0 : 0 ≤ x.file) : ∃ k fx f, FileAt t p k x fx f ∧ (dataOf (openM t ds) x.file).size = f.n := by
  have hG := good_of_loose hl
  obtain ⟨hm, hp⟩ := nodeAt_some hx
  obtain ⟨k, hk⟩ := List.getElem?_of_mem hm
  have hf := find_here hG.rises hk
  rw [hp] at hf
  have hlt : x.file < t.fn := by rcases hG.kind x hm with h | h <;> omega
  obtain ⟨fx, hfx⟩ := Int.eq_ofNat_of_zero_le h0
  have hfl : fx < t.files.length := by rw [hT.tree.fl]; omega
  have hfa : t.files[fx]? = some t.files[fx] := List.getElem?_eq_getElem hfl
  obtain ⟨d, hd, e, _⟩ := hT.dat.get hfa
  refine ⟨k, fx, _, ⟨hf, hk, hfx, hfa⟩, ?_⟩
  have : (openM t ds).F x.file = treeF t ds x.file := open_F t ds h0 hlt
  have hd2 : dataOf (openM t ds) x.file = ((openM t ds).F x.file).2 := by
    unfold dataOf PW.F
    cases fileOf (openM t ds) x.file <;> rfl
  rw [hd2, this, hfx, treeF_at hfa hd, ← e]
theorem namesF_C (l : List Node) {f : Int} (h : 0 ≤ f) : (picks (namesF f) l).length = namesC l f := by
  rw [picks_count]
  unfold namesC
  refine List.countP_congr fun x _ => ?_
  rw [namesF_iff]; simp [h]
/-- The law of ModelGrows. -/
theorem grow_law {t : TV} {ds : List ByteArray} {w : World} (hT : TreeD w t ds) {c : Cmd} {sd : List ByteArray} (h : DoE t ds c sd = 0) {u : TV} {es : List ByteArray} (hu : TellsM (doW t ds c sd) u es) :
    (1 ≤ c.op ∧ c.op ≤ 9) ∧ ((c.op = 8 ∨ c.op = 9) → wgtB u = wgtB t ∧ wgtI u = wgtI t) ∧
    (c.op = 3 → wgtI u = wgtI t ∧ wgtB u ≤ wgtB t + 1 ∧ wgtB t ≤ wgtB u + 1) ∧
    (c.op = 4 → wgtI u = wgtI t ∧ (wgtB u = wgtB t ∨ wgtB u = wgtB t + 1)) ∧
    (c.op = 1 → wgtI u = wgtI t + 1 ∧ (wgtB u = wgtB t + 1 ∨ wgtB u = wgtB t + 2)) ∧
    (c.op = 2 → wgtI t = wgtI u + 1 ∧ (wgtB t = wgtB u + 1 ∨ wgtB t = wgtB u + 2)) ∧
    (c.op = 6 → (0 ≤ c.ref ∧ c.ref < sd.length ∧ (refData c sd).size ≤ 8192) ∧ wgtI u = wgtI t + 1 ∧ (wgtB u = wgtB t + fW (refData c sd).size ∨ wgtB u = wgtB t + fW (refData c sd).size + 1)) ∧
    (c.op = 7 → ∃ k x fx f, FileAt t c.path k x fx f ∧ wgtI u = wgtI t + 1 ∧ (wgtB u = wgtB t + fW f.n ∨ wgtB u = wgtB t + fW f.n + 1)) ∧
    (c.op = 5 → ∃ k x fx f, FileAt t c.path k x fx f ∧ (1 < (picks (namesF x.file) t.nodes).length → wgtI u = wgtI t ∧ (wgtB t = wgtB u ∨ wgtB t = wgtB u + 1)) ∧
      (¬ 1 < (picks (namesF x.file) t.nodes).length → wgtI t = wgtI u + 1 ∧ (wgtB t = wgtB u + fW f.n ∨ wgtB t = wgtB u + fW f.n + 1))) := by
  obtain ⟨hl, h0⟩ := doE_loose h
  have hM := open_ok hT hl
  have hW : doW t ds c sd = doM (openM t ds) c sd := by unfold doW; rw [if_pos h]
  rw [hW] at hu
  have hN := hM.do c sd
  obtain ⟨u1, u2⟩ := told_weight hN hu
  obtain ⟨t1, t2⟩ := open_weight hT hl
  obtain ⟨hop, h'⟩ := (do0_iff _ c sd).1 h0
  have hop' : 1 ≤ c.op ∧ c.op ≤ 9 := by simpa [isOp] using hop
  obtain ⟨g89, g3, g4, g1, g2, g6, g7, g5⟩ := grow_do hM h0
  rw [u1, u2, t1, t2]
  refine ⟨hop', g89, g3, g4, g1, g2, fun e => ⟨?_, g6 e⟩, fun e => ?_, fun e => ?_⟩
  · exact (first0 (h'.resolve_left (by omega)).1).2.2.2 e
  · obtain ⟨x, hx, hx0, a, b⟩ := g7 e
    obtain ⟨k, fx, f, hf, hs⟩ := fileAt_of hT hl (show nodeAt t.nodes c.path = some x from hx) hx0
    rw [hs] at b
    exact ⟨k, x, fx, f, hf, a, b⟩
  · obtain ⟨x, hx, hx0, a, b⟩ := g5 e
    obtain ⟨k, fx, f, hf, hs⟩ := fileAt_of hT hl (show nodeAt t.nodes c.path = some x from hx) hx0
    rw [hs] at b
    refine ⟨k, x, fx, f, hf, ?_⟩
    rw [namesF_C t.nodes hx0]
    exact ⟨a, b⟩
end Go.Proofs.Ytanaccoelifcpaa
