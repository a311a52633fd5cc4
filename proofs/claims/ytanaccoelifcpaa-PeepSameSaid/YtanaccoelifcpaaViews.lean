/- A world told as a tree: the tree is loose, and looks as the world does. Lists of instructions and looks; model.Run of any tree, as one answer. -/
import Derived.Test.YtanaccoelifcpaaLaw7
import Derived.Test.YtanaccoelifcpaaAllRun
import Derived.Test.YtanaccoelifcpaaOpenC

namespace Go.Proofs.Ytanaccoelifcpaa
open Go.RowKit

theorem snoc_ind {α : Type} {P : List α → Prop} (h0 : P []) (h1 : ∀ l x, P l → P (l ++ [x])) (l : List α) : P l := by
  have h : ∀ m : List α, P m.reverse := fun m => by
    induction m with
    | nil => exact h0
    | cons x t ih => rw [List.reverse_cons]; exact h1 _ _ ih
  rw [← List.reverse_reverse l]; exact h _
theorem reN_path (ids : List Int) (x : Node) : (reN ids x).path = x.path := by unfold reN; split <;> rfl
theorem reN_mode (ids : List Int) (x : Node) : (reN ids x).mode = x.mode := by unfold reN; split <;> rfl
theorem reN_dir {ids : List Int} {x : Node} (h : x.file < 0) : reN ids x = x := by rw [reN, if_pos h]
theorem reN_file {ids : List Int} {x : Node} (h : 0 ≤ x.file) : (reN ids x).file = (ids.idxOf x.file : Nat) := by rw [reN, if_neg (by omega)]
theorem numRun_snoc : ∀ (l : List Node) (x : Node) (n : Int), numRun (l ++ [x]) n = (numRun l n).bind fun m => numRun [x] m
  | [], x, n => rfl
  | y :: t, x, n => by
    rw [List.cons_append, numRun, numRun]
    split
    · exact numRun_snoc t x n
    · split
      · rfl
      · exact numRun_snoc t x _
theorem num_re (S : List Node) (hS : ∀ x ∈ S, x.file = -1 ∨ 0 ≤ x.file) : numRun (S.map (reN (idsL S))) 0 = some ((idsL S).length : Int) := by
  revert hS
  induction S using snoc_ind with
  | h0 => intro _; rfl
  | h1 l x ih =>
    intro hS
    have ih' := ih fun y hy => hS y (List.mem_append.2 (.inl hy))
    rw [map_re_snoc, numRun_snoc, ih']
    show numRun [reN (idsL (l ++ [x])) x] ((idsL l).length : Int) = _
    rw [idsL_snoc]
    rcases hS x (by simp) with h | h
    · rw [idStep, if_pos (.inl (by omega)), reN_dir (by omega), numRun, if_pos h]; rfl
    · by_cases hm : x.file ∈ idsL l
      · rw [idStep, if_pos (.inr hm), numRun, reN_file h]
        have hlt := List.idxOf_lt_length_of_mem hm
        rw [if_neg (by omega), if_neg (by omega), if_neg (by omega)]; rfl
      · rw [idStep, if_neg (by rintro (e | e); omega; exact hm e), numRun, reN_file h]
        have hi : (idsL l ++ [x.file]).idxOf x.file = (idsL l).length := by rw [List.idxOf_append, if_neg hm]; simp
        rw [hi, if_neg (by omega), if_neg (by omega), if_pos rfl, numRun, List.length_append]
        simp
theorem idsL_len (S : List Node) : (idsL S).length ≤ S.length := by
  induction S using snoc_ind with
  | h0 => exact Nat.le_refl _
  | h1 l x ih =>
    rw [idsL_snoc, idStep, List.length_append]
    split
    · simp; omega
    · simp [List.length_append]; omega
theorem F_ok {M : PW} (hI : M.Inv) {x : Node} (hx : x ∈ M.nodes) (h0 : 0 ≤ x.file) : okMode (M.F x.file).1 = true ∧ (M.F x.file).2.size ≤ 8192 := by
  have hm : x.file ∈ M.files.map (·.id) := by rcases hI.file hx with h | h; omega; exact h
  obtain ⟨f, hf, e⟩ := List.mem_map.1 hm
  cases hq : fileOf M x.file with
  | none =>
    have := List.find?_eq_none.1 hq f hf
    simp [e] at this
  | some g =>
    have hg := List.mem_of_find?_eq_some hq
    have := hI.fbd g hg
    rw [PW.F, hq]
    exact ⟨this.2.2.1, this.2.2.2⟩
/-- A world told as a tree: the tree is loose. -/
theorem told_loose {M : PW} (hI : M.Inv) (hl : M.nodes.length ≤ 256) {b : Nat} {w : World} {S : List Node} {u : TV} (h : ToldAs M b w S u) : LooseP u := by
  have hm : ∀ x, x ∈ S ↔ x ∈ M.nodes := fun x => h.perm.mem_iff
  have hSl : S.length ≤ 256 := by rw [h.perm.length_eq]; exact hl
  have hk : ∀ x ∈ S, x.file = -1 ∨ 0 ≤ x.file := fun x hx => (hI.kind x ((hm x).1 hx)).imp (·.1) (·.1)
  have hmem : ∀ x ∈ u.nodes, ∃ y ∈ S, x = reN (idsL S) y := fun x hx => by
    rw [h.nodes] at hx
    obtain ⟨y, hy, e⟩ := List.mem_map.1 hx
    exact ⟨y, hy, e.symm⟩
  have hids : ∀ i ∈ idsL S, ∃ y ∈ M.nodes, 0 ≤ y.file ∧ y.file = i := fun i hi => by
    obtain ⟨h0, y, hy, e⟩ := (idsL_mem S i).1 hi
    exact ⟨y, (hm y).1 hy, by omega, e⟩
  refine ⟨⟨by rw [h.nn]; exact hSl, by rw [h.fn]; have := idsL_len S; omega, fun x hx => ?_, ?_, fun x hx => ?_, fun x hx => ?_, fun x hx => ?_, fun f h0 h1 => ?_, fun x hx => ?_⟩, ?_⟩
  · obtain ⟨k, hk⟩ := List.getElem?_of_mem hx
    have hlt := (List.getElem?_eq_some_iff.1 hk).1
    have hlt2 : k < (idsL S).length := by rw [← h.fn, ← h.fl]; exact hlt
    obtain ⟨y, hy, hy0, e⟩ := hids _ (List.getElem_mem hlt2)
    have hr := (h.rows.row k x _ hk (by rw [List.getElem?_map, List.getElem?_eq_getElem hlt2]; rfl)).1
    rw [hr, ← e]
    exact (F_ok hI hy hy0).2
  · rw [h.nodes, Rises, List.pairwise_map]
    exact h.rises.imp fun hlt => by unfold pathL at hlt ⊢; rw [reN_path, reN_path]; exact hlt
  · obtain ⟨y, hy, rfl⟩ := hmem x hx
    have := hI.valid y ((hm y).1 hy)
    unfold pathL at this ⊢
    rw [reN_path]; exact this
  · obtain ⟨y, hy, rfl⟩ := hmem x hx
    rw [reN_path]
    rcases hI.dir y ((hm y).1 hy) with e | ⟨z, hz, e1, e2⟩
    · exact .inl e
    · refine .inr ⟨z, ?_, e1, e2⟩
      rw [h.nodes]
      exact List.mem_map.2 ⟨z, (hm z).2 hz, reN_dir (by omega)⟩
  · obtain ⟨y, hy, rfl⟩ := hmem x hx
    rcases hI.kind y ((hm y).1 hy) with ⟨e1, e2⟩ | ⟨e1, e2, _⟩
    · rw [reN_dir (by omega)]; exact .inl ⟨e1, e2⟩
    · refine .inr ?_
      rw [reN_file e1, reN_mode, h.fn]
      have := List.idxOf_lt_length_of_mem ((idsL_mem S y.file).2 ⟨e1, y, hy, rfl⟩)
      exact ⟨by omega, by omega, e2⟩
  · have hlt : f.toNat < (idsL S).length := by rw [← h.fn]; omega
    obtain ⟨h0', y, hy, e⟩ := (idsL_mem S _).1 (List.getElem_mem hlt)
    refine ⟨reN (idsL S) y, by rw [h.nodes]; exact List.mem_map.2 ⟨y, hy, rfl⟩, ?_⟩
    rw [reN_file (by omega), e, (idsL_nodup S).idxOf_getElem f.toNat hlt]
    omega
  · obtain ⟨k, hk⟩ := List.getElem?_of_mem (List.mem_map.2 ⟨x, hx, rfl⟩ : x.mode ∈ u.files.map (·.mode))
    rw [h.modes, List.getElem?_map] at hk
    cases hi : (idsL S)[k]? with
    | none => rw [hi] at hk; cases hk
    | some i =>
      rw [hi] at hk
      injection hk with hk
      obtain ⟨y, hy, hy0, e⟩ := hids i (List.mem_of_getElem? hi)
      rw [← hk, ← e]
      exact (F_ok hI hy hy0).1
  · rw [h.nodes, h.fn]
    exact num_re S hk
theorem nodeAt_re (ids : List Int) (S : List Node) (p : ByteArray) : nodeAt (S.map (reN ids)) p = (nodeAt S p).map (reN ids) := by
  unfold nodeAt
  rw [List.find?_map]
  congr 1
  congr 1
  funext x
  simp [reN_path]
/-- A told tree has at each path what the world has. -/
theorem told_kind {M : PW} (hI : M.Inv) {b : Nat} {w : World} {S : List Node} {u : TV} (h : ToldAs M b w S u) (p : ByteArray) : kindL u.nodes (treeF u (dsOf M S)) p = kindL M.nodes M.F p := by
  have hA : Apart S := (h.perm.map _).nodup_iff.2 hI.apart
  rw [kindL, kindL, ← nodeAt_perm hA h.perm, h.nodes, nodeAt_re]
  cases hx : nodeAt S p with
  | none => rfl
  | some x =>
    obtain ⟨hxS, _⟩ := nodeAt_some hx
    simp only [Option.map_some, Option.some.injEq]
    by_cases h0 : x.file < 0
    · rw [reN_dir h0]; simp only [kdOf, if_pos h0]
    · have hi : x.file ∈ idsL S := (idsL_mem S _).2 ⟨by omega, x, hxS, rfl⟩
      have hlt := List.idxOf_lt_length_of_mem hi
      have hg : (idsL S)[(idsL S).idxOf x.file]? = some x.file := by rw [List.getElem?_eq_getElem hlt, List.getElem_idxOf]
      have h2 : ¬ (reN (idsL S) x).file < 0 := by rw [reN_file (by omega)]; omega
      simp only [kdOf, if_neg h2, if_neg h0]
      rw [reN_file (by omega)]
      have e1 : (treeF u (dsOf M S) ((idsL S).idxOf x.file : Nat)).1 = (M.F x.file).1 := by
        simp only [treeF, Int.toNat_natCast]
        rw [← List.getElem?_map, h.modes, List.getElem?_map, hg]; rfl
      have e2 : (treeF u (dsOf M S) ((idsL S).idxOf x.file : Nat)).2 = (M.F x.file).2 := by
        simp only [treeF, Int.toNat_natCast, dsOf]
        rw [List.getElem?_map, hg]; rfl
      rw [e1, e2]
/-- A told tree has the world's names of one file. -/
theorem told_sameL {M : PW} {b : Nat} {w : World} {S : List Node} {u : TV} (h : ToldAs M b w S u) (p q : ByteArray) : sameL u.nodes p q ↔ sameL M.nodes p q := by
  have hm : ∀ x, x ∈ S ↔ x ∈ M.nodes := fun x => h.perm.mem_iff
  constructor
  · rintro ⟨x, hx, y, hy, e1, e2, h0, e⟩
    rw [h.nodes] at hx hy
    obtain ⟨x', hx', rfl⟩ := List.mem_map.1 hx
    obtain ⟨y', hy', rfl⟩ := List.mem_map.1 hy
    rw [reN_path] at e1 e2
    have hx0 : 0 ≤ x'.file := by
      by_cases c : x'.file < 0
      · rw [reN_dir c] at h0; omega
      · omega
    have hy0 : 0 ≤ y'.file := by
      by_cases c : y'.file < 0
      · rw [reN_dir c] at e; omega
      · omega
    rw [reN_file hx0, reN_file hy0] at e
    refine ⟨x', (hm x').1 hx', y', (hm y').1 hy', e1, e2, hx0, ?_⟩
    have i1 : x'.file ∈ idsL S := (idsL_mem S _).2 ⟨hx0, x', hx', rfl⟩
    have i2 : y'.file ∈ idsL S := (idsL_mem S _).2 ⟨hy0, y', hy', rfl⟩
    have g1 := List.getElem_idxOf (List.idxOf_lt_length_of_mem i1)
    have g2 := List.getElem_idxOf (List.idxOf_lt_length_of_mem i2)
    have en : (idsL S).idxOf x'.file = (idsL S).idxOf y'.file := by omega
    rw [← g1, ← g2]
    congr 1
  · rintro ⟨x, hx, y, hy, e1, e2, h0, e⟩
    refine ⟨reN (idsL S) x, by rw [h.nodes]; exact List.mem_map.2 ⟨x, (hm x).2 hx, rfl⟩, reN (idsL S) y, by rw [h.nodes]; exact List.mem_map.2 ⟨y, (hm y).2 hy, rfl⟩, by rw [reN_path]; exact e1, by rw [reN_path]; exact e2, by rw [reN_file h0]; omega, by rw [reN_file h0, reN_file (by omega), e]⟩
/-- Two worlds that look alike. -/
structure SameV (M N : PW) : Prop where
  kind : ∀ p, kindL M.nodes M.F p = kindL N.nodes N.F p
  same : ∀ p q, sameL M.nodes p q ↔ sameL N.nodes p q
theorem SameV.refl (M : PW) : SameV M M := ⟨fun _ => rfl, fun _ _ => Iff.rfl⟩
theorem SameV.symm {M N : PW} (h : SameV M N) : SameV N M := ⟨fun p => (h.kind p).symm, fun p q => (h.same p q).symm⟩
theorem SameV.trans {M N O : PW} (h : SameV M N) (k : SameV N O) : SameV M O := ⟨fun p => (h.kind p).trans (k.kind p), fun p q => (h.same p q).trans (k.same p q)⟩
theorem open_F (t : TV) (ds : List ByteArray) {i : Int} (h0 : 0 ≤ i) (h1 : i < t.fn) : (openM t ds).F i = treeF t ds i := by
  have hf : fileOf (openM t ds) i = some ⟨i, (treeF t ds i).1, (treeF t ds i).2⟩ := by
    unfold fileOf
    show (filesP t ds t.fn).find? _ = _
    unfold filesP
    rw [List.find?_map]
    have : (List.range t.fn).find? ((fun f : PF => decide (f.id = i)) ∘ fun (i : Nat) => (⟨(i : Int), (treeF t ds i).1, (treeF t ds i).2⟩ : PF)) = some i.toNat := by
      rw [List.find?_range_eq_some]
      refine ⟨by simp; omega, List.mem_range.2 (by omega), fun j hj => ?_⟩
      simp; omega
    rw [this]
    simp only [Option.map_some]
    rw [Int.toNat_of_nonneg h0]
  rw [PW.F, hf]; rfl
theorem open_kind {t : TV} {ds : List ByteArray} (hG : Good t) (p : ByteArray) : kindL (openM t ds).nodes (openM t ds).F p = kindL t.nodes (treeF t ds) p := by
  show kindL t.nodes (openM t ds).F p = _
  rw [kindL, kindL]
  cases hx : nodeAt t.nodes p with
  | none => rfl
  | some x =>
    simp only [Option.map_some, Option.some.injEq, kdOf]
    rcases hG.kind x (nodeAt_some hx).1 with ⟨e, _⟩ | ⟨e1, e2, _⟩
    · rw [if_pos (by omega), if_pos (by omega)]
    · rw [if_neg (by omega), if_neg (by omega), open_F t ds e1 e2]
/-- A told tree, opened again, looks as the world did. -/
theorem told_open {M : PW} (hI : M.Inv) (hl : M.nodes.length ≤ 256) {b : Nat} {w : World} {S : List Node} {u : TV} (h : ToldAs M b w S u) : SameV (openM u (dsOf M S)) M :=
  ⟨fun p => (open_kind (told_loose hI hl h).good p).trans (told_kind hI h p), fun p q => told_sameL h p q⟩
/-- Two worlds that look alike are told as one tree. -/
theorem told_exact {M N : PW} (hM : M.Inv) (hN : N.Inv) (hl : M.nodes.length ≤ 256) (hn : N.nodes.length ≤ 256) (hV : SameV M N) {b c : Nat} {w x : World} {S T : List Node} {u v : TV} (h : ToldAs M b w S u) (k : ToldAs N c x T v) : exactB u v (dsOf M S) (dsOf N T) = true :=
  exact_of_view (told_loose hM hl h) (told_loose hN hn k) h.fl k.fl (by rw [dsOf, List.length_map, h.fl, h.fn]) (by rw [dsOf, List.length_map, k.fl, k.fn]) (fun p => (told_kind hM h p).trans ((hV.kind p).trans (told_kind hN k p).symm)) (fun p q => (told_sameL h p q).trans ((hV.same p q).trans (told_sameL k p q).symm))

theorem SameV.none {M N : PW} (h : SameV M N) {p : ByteArray} (hx : nodeAt M.nodes p = none) : nodeAt N.nodes p = none := by
  have := h.kind p
  rw [kindL, kindL, hx] at this
  cases hy : nodeAt N.nodes p with
  | none => rfl
  | some y => rw [hy] at this; cases this
theorem SameV.some {M N : PW} (h : SameV M N) {p : ByteArray} {x : Node} (hx : nodeAt M.nodes p = some x) : ∃ y, nodeAt N.nodes p = some y ∧ kdOf M.F x = kdOf N.F y := by
  have := h.kind p
  rw [kindL, kindL, hx] at this
  cases hy : nodeAt N.nodes p with
  | none => rw [hy] at this; cases this
  | some y => rw [hy] at this; exact ⟨y, rfl, Option.some.inj this⟩
theorem kd_sign {F G : Int → Int × ByteArray} {x y : Node} (h : kdOf F x = kdOf G y) : (x.file < 0 ↔ y.file < 0) := by
  unfold kdOf at h
  split at h <;> split at h
  · exact ⟨fun _ => ‹_›, fun _ => ‹_›⟩
  · cases h
  · cases h
  · exact ⟨fun e => absurd e ‹_›, fun e => absurd e ‹_›⟩
theorem SameV.isSome {M N : PW} (h : SameV M N) (p : ByteArray) : (nodeAt M.nodes p).isSome = (nodeAt N.nodes p).isSome := by
  cases hx : nodeAt M.nodes p with
  | none => rw [h.none hx]
  | some x => obtain ⟨y, hy, _⟩ := h.some hx; rw [hy]; rfl
theorem SameV.lookGo {M N : PW} (h : SameV M N) (p : ByteArray) : ∀ (n pos : Nat), lookGo M.nodes p n pos = lookGo N.nodes p n pos
  | 0, _ => rfl
  | n + 1, pos => by
    rw [Go.Proofs.Ytanaccoelifcpaa.lookGo, Go.Proofs.Ytanaccoelifcpaa.lookGo, h.lookGo p n (pos + 1)]
    cases hx : nodeAt M.nodes (p.extract 0 pos) with
    | none => rw [h.none hx]
    | some x =>
      obtain ⟨y, hy, hk⟩ := h.some hx
      have := kd_sign hk
      rw [hy]
      simp only
      by_cases c : 0 ≤ x.file
      · rw [if_pos c, if_pos (by omega : 0 ≤ y.file)]
      · rw [if_neg c, if_neg (by omega : ¬ 0 ≤ y.file)]
theorem SameV.lookE {M N : PW} (h : SameV M N) (p : ByteArray) : lookE M.nodes p = lookE N.nodes p := h.lookGo p _ _
theorem SameV.lookT {M N : PW} (h : SameV M N) (p : ByteArray) : lookT M.nodes p = lookT N.nodes p := by
  unfold Go.Proofs.Ytanaccoelifcpaa.lookT; rw [h.lookE p, h.isSome p]
theorem SameV.lookF {M N : PW} (h : SameV M N) (p : ByteArray) : (lookF M.nodes p < 0 ↔ lookF N.nodes p < 0) := by
  unfold Go.Proofs.Ytanaccoelifcpaa.lookF
  rw [h.lookE p]
  split
  · cases hx : nodeAt M.nodes p with
    | none => rw [h.none hx]
    | some x =>
      obtain ⟨y, hy, hk⟩ := h.some hx
      rw [hy]
      exact kd_sign hk
  · exact Iff.rfl
theorem SameV.absE {M N : PW} (h : SameV M N) (p : ByteArray) : absE M.nodes p = absE N.nodes p := by
  unfold Go.Proofs.Ytanaccoelifcpaa.absE; rw [h.lookE p, h.lookT p]
theorem SameV.preE {M N : PW} (h : SameV M N) (p : ByteArray) : preE M.nodes p = preE N.nodes p := by
  unfold Go.Proofs.Ytanaccoelifcpaa.preE; rw [h.lookE p, h.lookT p]
theorem SameV.filE {M N : PW} (h : SameV M N) (p : ByteArray) : filE M.nodes p = filE N.nodes p := by
  unfold Go.Proofs.Ytanaccoelifcpaa.filE; rw [h.preE p]; simp only [h.lookF p]
theorem SameV.bothE {M N : PW} (h : SameV M N) (p q : ByteArray) : bothE M.nodes p q = bothE N.nodes p q := by
  unfold Go.Proofs.Ytanaccoelifcpaa.bothE; rw [h.filE p, h.absE q]
theorem mem_paths {l : List Node} {p : ByteArray} : p ∈ l.map (·.path) ↔ (nodeAt l p).isSome = true := by
  cases h : nodeAt l p with
  | none => simp; exact fun x hx => nodeAt_none.1 h x hx
  | some x => have := nodeAt_some h; simp; exact ⟨x, this⟩
theorem perm_mem {α : Type} [DecidableEq α] {l m : List α} (h1 : l.Nodup) (h2 : m.Nodup) (h : ∀ x, x ∈ l ↔ x ∈ m) : l.Perm m := by
  refine List.perm_iff_count.2 fun p => ?_
  rw [h1.count, h2.count]
  simp only [h p]
theorem SameV.paths {M N : PW} (h : SameV M N) (hM : M.Inv) (hN : N.Inv) : (M.nodes.map (·.path)).Perm (N.nodes.map (·.path)) := by
  have h1 : (M.nodes.map (·.path)).Nodup := hM.apart
  have h2 : (N.nodes.map (·.path)).Nodup := hN.apart
  exact perm_mem h1 h2 fun p => by rw [mem_paths, mem_paths, h.isSome p]
theorem SameV.length {M N : PW} (h : SameV M N) (hM : M.Inv) (hN : N.Inv) : M.nodes.length = N.nodes.length := by
  have := (h.paths hM hN).length_eq
  simpa using this
theorem kidsC_paths (l : List Node) (p : ByteArray) : kidsC l p = (l.map (·.path)).countP fun q => decide (parentB q = p) := by
  unfold kidsC; rw [List.countP_map]; rfl
theorem SameV.kids {M N : PW} (h : SameV M N) (hM : M.Inv) (hN : N.Inv) (p : ByteArray) : kidsC M.nodes p = kidsC N.nodes p := by
  rw [kidsC_paths, kidsC_paths, (h.paths hM hN).countP_eq]
theorem SameV.rmE {M N : PW} (h : SameV M N) (hM : M.Inv) (hN : N.Inv) (p : ByteArray) : rmE M p = rmE N p := by
  unfold Go.Proofs.Ytanaccoelifcpaa.rmE
  have := h.lookF p
  rw [h.preE p, h.kids hM hN p]
  by_cases c : 0 ≤ Go.Proofs.Ytanaccoelifcpaa.lookF M.nodes p
  · rw [if_pos c, if_pos (by omega : 0 ≤ Go.Proofs.Ytanaccoelifcpaa.lookF N.nodes p)]
  · rw [if_neg c, if_neg (by omega : ¬ 0 ≤ Go.Proofs.Ytanaccoelifcpaa.lookF N.nodes p)]
theorem SameV.opE {M N : PW} (h : SameV M N) (hM : M.Inv) (hN : N.Inv) (c : Cmd) : opE M c = opE N c := by
  unfold Go.Proofs.Ytanaccoelifcpaa.opE; rw [h.absE, h.rmE hM hN, h.filE, h.preE, h.bothE]
theorem SameV.fullE {M N : PW} (h : SameV M N) (c : Cmd) : fullE M c = fullE N c := by
  unfold Go.Proofs.Ytanaccoelifcpaa.fullE; rw [h.filE, h.absE, h.absE]
theorem SameV.doE {M N : PW} (h : SameV M N) (hM : M.Inv) (hN : N.Inv) (c : Cmd) (sd : List ByteArray) : doE M c sd = doE N c sd := by
  unfold Go.Proofs.Ytanaccoelifcpaa.doE; rw [h.fullE, h.opE hM hN, h.length hM hN]

/-- Are two paths names of one file? -/
def sB (l : List Node) (p q : ByteArray) : Bool := match nodeAt l p, nodeAt l q with
  | some x, some y => decide (0 ≤ x.file ∧ x.file = y.file)
  | _, _ => false
theorem sB_iff {l : List Node} (hA : Apart l) {p q : ByteArray} : sB l p q = true ↔ sameL l p q := by
  rw [sameL_iff hA]
  unfold sB
  split
  · rename_i x y hx hy
    rw [decide_eq_true_eq]
    exact ⟨fun h => ⟨x, y, hx, hy, h.1, h.2⟩, fun ⟨a, b, ha, hb, h1, h2⟩ => by rw [hx] at ha; rw [hy] at hb; injection ha with ha; injection hb with hb; subst ha hb; exact ⟨h1, h2⟩⟩
  · rename_i hn
    refine ⟨fun h => (by cases h), fun ⟨a, b, ha, hb, _⟩ => absurd hb (hn a b ha)⟩
/-- A look. -/
structure Vw where
  k : ByteArray → Option Kd
  s : ByteArray → ByteArray → Bool
def PW.vw (M : PW) : Vw := ⟨kindL M.nodes M.F, sB M.nodes⟩
theorem Vw.ext2 {V W : Vw} (h1 : ∀ p, V.k p = W.k p) (h2 : ∀ p q, V.s p q = W.s p q) : V = W := by
  obtain ⟨k, s⟩ := V; obtain ⟨k', s'⟩ := W
  have e1 : k = k' := funext h1
  have e2 : s = s' := funext fun p => funext fun q => h2 p q
  rw [e1, e2]
theorem SameV.vw {M N : PW} (h : SameV M N) (hM : Apart M.nodes) (hN : Apart N.nodes) : M.vw = N.vw :=
  Vw.ext2 h.kind fun p q => Bool.eq_iff_iff.2 ((sB_iff hM).trans ((h.same p q).trans (sB_iff hN).symm))
theorem SameV.of_vw {M N : PW} (h : M.vw = N.vw) (hM : Apart M.nodes) (hN : Apart N.nodes) : SameV M N :=
  ⟨fun p => congrFun (congrArg Vw.k h) p, fun p q => by
    have e : sB M.nodes p q = sB N.nodes p q := congrFun (congrFun (congrArg Vw.s h) p) q
    rw [← sB_iff hM, ← sB_iff hN, e]⟩

def Vw.del (V : Vw) (p : ByteArray) : Vw := ⟨fun q => if q = p then none else V.k q, fun a b => !decide (a = p) && !decide (b = p) && V.s a b⟩
def Vw.new (V : Vw) (p : ByteArray) (k : Kd) (f : Bool) : Vw := ⟨fun q => if q = p then some k else V.k q, fun a b => if a = p ∧ b = p then f else if a = p ∨ b = p then false else V.s a b⟩
def asP (p q a : ByteArray) : ByteArray := if a = q then p else a
def Vw.link (V : Vw) (p q : ByteArray) : Vw := ⟨fun a => V.k (asP p q a), fun a b => V.s (asP p q a) (asP p q b)⟩
def isF (k : Option Kd) : Bool := match k with
  | some (.file _ _) => true
  | _ => false
def kdMode (mode : Int) : Kd → Kd
  | .dir _ => .dir mode
  | .file _ d => .file mode d
def kdData : Option Kd → ByteArray
  | some (.file _ d) => d
  | _ => ByteArray.empty
/-- The mode of what is at p is turned, at p and at every name of the same file. -/
def Vw.chm (V : Vw) (p : ByteArray) (mode : Int) : Vw := ⟨fun q => if q = p ∨ V.s p q = true then (V.k q).map (kdMode mode) else V.k q, V.s⟩

theorem nodeAt_snoc {l : List Node} {x : Node} (h : nodeAt l x.path = none) (q : ByteArray) : nodeAt (l ++ [x]) q = if q = x.path then some x else nodeAt l q := by
  unfold nodeAt at h ⊢
  rw [List.find?_append]
  by_cases e : q = x.path
  · subst e; rw [h, if_pos rfl]; simp
  · rw [if_neg e]
    have : ([x] : List Node).find? (fun y => decide (y.path = q)) = none := by simp; exact fun h => e h.symm
    rw [this]; simp
theorem nodeAt_noPath (l : List Node) (p q : ByteArray) : nodeAt (noPath l p) q = if q = p then none else nodeAt l q := by
  by_cases e : q = p
  · subst e
    rw [if_pos rfl]
    exact nodeAt_none.2 fun x hx => (noPath_mem.1 hx).2
  · rw [if_neg e]
    unfold nodeAt noPath
    rw [List.find?_filter]
    congr 1
    funext x
    by_cases c : x.path = q
    · subst c; simp [e]
    · simp [c]
theorem kdOf_congr {F G : Int → Int × ByteArray} {x : Node} (h : 0 ≤ x.file → F x.file = G x.file) : kdOf F x = kdOf G x := by
  unfold kdOf
  split
  · rfl
  · rw [h (by omega)]
theorem F_files {M N : PW} (h : M.files = N.files) : M.F = N.F := by funext i; unfold PW.F fileOf; rw [h]
theorem vw_put {M : PW} {x : Node} (hn : nodeAt M.nodes x.path = none) (hx : x.file < 0) : (M.put x).vw = M.vw.new x.path (.dir x.mode) false := by
  refine Vw.ext2 (fun q => ?_) (fun a b => ?_)
  · show kindL (M.nodes ++ [x]) M.F q = if q = x.path then _ else kindL M.nodes M.F q
    rw [kindL, kindL, nodeAt_snoc hn]
    split
    · simp [kdOf, hx]
    · rfl
  · show sB (M.nodes ++ [x]) a b = if a = x.path ∧ b = x.path then false else if a = x.path ∨ b = x.path then false else sB M.nodes a b
    unfold sB
    rw [nodeAt_snoc hn, nodeAt_snoc hn]
    by_cases ca : a = x.path <;> by_cases cb : b = x.path
    · rw [if_pos ca, if_pos cb, if_pos ⟨ca, cb⟩]; simp; omega
    · rw [if_pos ca, if_neg cb, if_neg (fun h => cb h.2), if_pos (.inl ca)]
      cases nodeAt M.nodes b with
      | none => rfl
      | some y => simp; omega
    · rw [if_neg ca, if_pos cb, if_neg (fun h => ca h.1), if_pos (.inr cb)]
      cases nodeAt M.nodes a with
      | none => rfl
      | some y => simp; omega
    · rw [if_neg ca, if_neg cb, if_neg (fun h => ca h.1), if_neg (fun h => h.elim ca cb)]
theorem vw_link {M : PW} {x y : Node} (hn : nodeAt M.nodes x.path = none) (hy : nodeAt M.nodes y.path = some y) (hf : 0 ≤ y.file) (e : x.file = y.file) : (M.put x).vw = M.vw.link y.path x.path := by
  have key : ∀ q, nodeAt M.nodes (asP y.path x.path q) = if q = x.path then some y else nodeAt M.nodes q := fun q => by
    unfold asP
    split
    · exact hy
    · rfl
  refine Vw.ext2 (fun q => ?_) (fun a b => ?_)
  · show kindL (M.nodes ++ [x]) M.F q = kindL M.nodes M.F (asP y.path x.path q)
    rw [kindL, kindL, nodeAt_snoc hn, key]
    split
    · simp only [Option.map_some, kdOf, e]
      rw [if_neg (by omega), if_neg (by omega)]
    · rfl
  · show sB (M.nodes ++ [x]) a b = sB M.nodes (asP y.path x.path a) (asP y.path x.path b)
    unfold sB
    rw [nodeAt_snoc hn, nodeAt_snoc hn, key, key]
    by_cases ca : a = x.path <;> by_cases cb : b = x.path
    · rw [if_pos ca, if_pos cb, if_pos ca, if_pos cb]; simp only [e]
    · rw [if_pos ca, if_neg cb, if_pos ca, if_neg cb]
      cases nodeAt M.nodes b with
      | none => rfl
      | some z => simp only [e]
    · rw [if_neg ca, if_pos cb, if_neg ca, if_pos cb]
      cases nodeAt M.nodes a with
      | none => rfl
      | some z => simp only [e]
    · rw [if_neg ca, if_neg cb, if_neg ca, if_neg cb]
theorem vw_take {M : PW} (x : Node) : (M.take x).vw = M.vw.del x.path := by
  refine Vw.ext2 (fun q => ?_) (fun a b => ?_)
  · show kindL (noPath M.nodes x.path) (M.take x).F q = if q = x.path then none else kindL M.nodes M.F q
    rw [kindL, kindL, nodeAt_noPath]
    split
    · rfl
    · rename_i hq
      cases hy : nodeAt M.nodes q with
      | none => rfl
      | some y =>
        obtain ⟨hym, hyp⟩ := nodeAt_some hy
        simp only [Option.map_some, Option.some.injEq]
        refine kdOf_congr fun h0 => ?_
        unfold PW.F fileOf
        simp only [PW.take]
        split
        · rename_i hc
          have hne : y.file ≠ x.file := fun e => by
            have h2 := hc.2
            rw [namesC, List.countP_eq_zero] at h2
            exact h2 y (noPath_mem.2 ⟨hym, by rw [hyp]; exact hq⟩) (by simp [e])
          rw [List.find?_filter]
          congr 2
          congr 1
          funext f
          by_cases c : f.id = y.file
          · simp [c, hne]
          · simp [c]
        · rfl
  · show sB (noPath M.nodes x.path) a b = (!decide (a = x.path) && !decide (b = x.path) && sB M.nodes a b)
    unfold sB
    rw [nodeAt_noPath, nodeAt_noPath]
    by_cases ca : a = x.path
    · rw [if_pos ca]; simp [ca]
    · by_cases cb : b = x.path
      · rw [if_neg ca, if_pos cb]
        simp [cb]
      · rw [if_neg ca, if_neg cb]; simp [ca, cb]
theorem vw_made {M : PW} (hI : M.Inv) {p : ByteArray} {hp : p.size ≤ 9223372036854775807} {mode : Int} {d : ByteArray} (hn : nodeAt M.nodes p = none) : (M.made p hp mode d).vw = M.vw.new p (.file mode d) true := by
  have hfresh : fileOf M M.next = none := by
    unfold fileOf
    refine List.find?_eq_none.2 fun f hf => ?_
    have := (hI.fbd f hf).2.1
    simp; omega
  have hlt : ∀ y ∈ M.nodes, y.file < M.next := fun y hy => by
    rcases hI.kind y hy with k | k
    · have := hI.n0; omega
    · obtain ⟨f, hf, e⟩ := List.mem_map.1 k.2.2
      have := (hI.fbd f hf).2.1; omega
  have hN := nodeAt_snoc (x := ⟨p, M.next, 0, hp⟩) hn
  have h0 := hI.n0
  refine Vw.ext2 (fun q => ?_) (fun a b => ?_)
  · show kindL (M.nodes ++ [⟨p, M.next, 0, hp⟩]) (M.made p hp mode d).F q = if q = p then _ else kindL M.nodes M.F q
    rw [kindL, kindL, hN]
    split
    · have : (M.made p hp mode d).F M.next = (mode, d) := by
        unfold PW.F
        have : fileOf (M.made p hp mode d) M.next = some ⟨M.next, mode, d⟩ := by
          unfold fileOf PW.made
          rw [List.find?_append]
          unfold fileOf at hfresh
          rw [hfresh]; simp
        rw [this]; rfl
      simp only [Option.map_some, kdOf, if_neg (by omega : ¬ M.next < 0), this]
    · cases hy : nodeAt M.nodes q with
      | none => rfl
      | some y =>
        simp only [Option.map_some, Option.some.injEq]
        refine kdOf_congr fun _ => ?_
        have := hlt y (nodeAt_some hy).1
        unfold PW.F fileOf PW.made
        rw [List.find?_append]
        have e : ([(⟨M.next, mode, d⟩ : PF)]).find? (fun f => decide (f.id = y.file)) = none := by simp; omega
        rw [e]; simp
  · show sB (M.nodes ++ [⟨p, M.next, 0, hp⟩]) a b = if a = p ∧ b = p then true else if a = p ∨ b = p then false else sB M.nodes a b
    unfold sB
    rw [hN, hN]
    by_cases ca : a = p <;> by_cases cb : b = p
    · rw [if_pos ca, if_pos cb, if_pos ⟨ca, cb⟩]; simp; omega
    · rw [if_pos ca, if_neg cb, if_neg (fun h => cb h.2), if_pos (.inl ca)]
      cases hy : nodeAt M.nodes b with
      | none => rfl
      | some y => have := hlt y (nodeAt_some hy).1; simp; omega
    · rw [if_neg ca, if_pos cb, if_neg (fun h => ca h.1), if_pos (.inr cb)]
      cases hy : nodeAt M.nodes a with
      | none => rfl
      | some y => have := hlt y (nodeAt_some hy).1; simp; omega
    · rw [if_neg ca, if_neg cb, if_neg (fun h => ca h.1), if_neg (fun h => h.elim ca cb)]
theorem chmodN_at {l : List Node} {p : ByteArray} {mode : Int} (q : ByteArray) : nodeAt (chmodN l p mode) q = (nodeAt l q).map fun x => if x.path = p then ⟨x.path, -1, mode, x.hp⟩ else x := by
  unfold nodeAt chmodN
  rw [List.find?_map]
  congr 2
  funext x
  simp only [Function.comp]
  split <;> rfl
theorem vw_chmod {M : PW} (hI : M.Inv) {x : Node} (hx : nodeAt M.nodes x.path = some x) (mode : Int) : (M.chmod x.path mode).vw = M.vw.chm x.path mode := by
  obtain ⟨hxm, _⟩ := nodeAt_some hx
  have hs : ∀ {q : ByteArray} {y : Node}, nodeAt M.nodes q = some y → (sB M.nodes x.path q = true ↔ 0 ≤ x.file ∧ x.file = y.file) := fun {q y} hy => by
    unfold sB; rw [hx, hy]; simp
  unfold PW.chmod
  rw [hx]
  simp only
  split
  · rename_i hneg
    have hx1 : x.file = -1 := by rcases hI.kind x hxm with k | k <;> omega
    refine Vw.ext2 (fun q => ?_) (fun a b => ?_)
    · show kindL (chmodN M.nodes x.path mode) M.F q = if q = x.path ∨ sB M.nodes x.path q = true then (kindL M.nodes M.F q).map (kdMode mode) else kindL M.nodes M.F q
      rw [kindL, kindL, chmodN_at]
      cases hy : nodeAt M.nodes q with
      | none => simp
      | some y =>
        have hyp := (nodeAt_some hy).2
        simp only [Option.map_some]
        by_cases e : q = x.path
        · subst e
          rw [hx] at hy
          injection hy with hy
          subst hy
          rw [if_pos rfl, if_pos (.inl rfl)]
          simp [kdOf, hneg, kdMode]
        · rw [if_neg (by rw [hyp]; exact e), if_neg]
          rintro (h | h)
          · exact e h
          · have := (hs hy).1 h; omega
    · show sB (chmodN M.nodes x.path mode) a b = sB M.nodes a b
      have hfile : ∀ {q : ByteArray} {y : Node}, nodeAt M.nodes q = some y → (if y.path = x.path then (⟨y.path, -1, mode, y.hp⟩ : Node) else y).file = y.file := fun {q y} hy => by
        split
        · rename_i e
          have : y = x := apart_inj hI.apart (nodeAt_some hy).1 hxm e
          subst this; exact hx1.symm
        · rfl
      unfold sB
      rw [chmodN_at, chmodN_at]
      cases ha : nodeAt M.nodes a with
      | none => rfl
      | some y =>
        cases hb : nodeAt M.nodes b with
        | none => rfl
        | some z => simp only [Option.map_some, hfile ha, hfile hb]
  · rename_i hneg
    refine Vw.ext2 (fun q => ?_) (fun a b => rfl)
    show kindL M.nodes (PW.F { M with files := chmodF M.files x.file mode }) q = if q = x.path ∨ sB M.nodes x.path q = true then (kindL M.nodes M.F q).map (kdMode mode) else kindL M.nodes M.F q
    have hF : ∀ i, PW.F { M with files := chmodF M.files x.file mode } i = if i = x.file ∧ (fileOf M i).isSome = true then (mode, (M.F i).2) else M.F i := fun i => by
      unfold PW.F fileOf chmodF
      simp only
      rw [List.find?_map]
      have : ((fun f : PF => decide (f.id = i)) ∘ fun f => if f.id = x.file then { f with mode := mode } else f) = fun f : PF => decide (f.id = i) := by
        funext f; simp only [Function.comp]; split <;> rfl
      rw [this]
      cases hf : M.files.find? (fun f => decide (f.id = i)) with
      | none => simp
      | some f =>
        have hfi : f.id = i := by simpa using List.find?_some hf
        simp only [Option.map_some, Option.getD_some, Option.isSome_some, and_true, hfi]
        split <;> rfl
    rw [kindL, kindL]
    cases hy : nodeAt M.nodes q with
    | none => simp
    | some y =>
      simp only [Option.map_some]
      by_cases e : x.file = y.file
      · have hsome : (fileOf M y.file).isSome = true := by
          rcases hI.kind x hxm with k | k
          · omega
          · obtain ⟨f, hf, e2⟩ := List.mem_map.1 k.2.2
            unfold fileOf
            rw [List.find?_isSome]
            exact ⟨f, hf, by simp; omega⟩
        rw [if_pos (.inr ((hs hy).2 ⟨by omega, e⟩))]
        simp only [kdOf, if_neg (by omega : ¬ y.file < 0), hF, if_pos (⟨e.symm, hsome⟩ : y.file = x.file ∧ (fileOf M y.file).isSome = true), kdMode]
      · rw [if_neg]
        · refine congrArg some (kdOf_congr fun _ => ?_)
          rw [hF, if_neg (fun h => e h.1.symm)]
        · rintro (h | h)
          · rw [h, hx] at hy
            injection hy with hy
            exact e (by rw [hy])
          · exact e ((hs hy).1 h).2

/-- Where what is at a path comes from. -/
inductive Src where
  | old (r : ByteArray)
  | gone
  | fresh (k : Kd) (f : Bool)
def Vw.act (V : Vw) (σ : ByteArray → Src) : Vw :=
  ⟨fun q => match σ q with
    | .old r => V.k r
    | .gone => none
    | .fresh k _ => some k, fun a b => match σ a, σ b with
    | .old r, .old t => V.s r t
    | .fresh _ f, .fresh _ _ => f && decide (a = b)
    | _, _ => false⟩
def sNew (p : ByteArray) (k : Kd) (f : Bool) (q : ByteArray) : Src := if q = p then .fresh k f else .old q
def sDel (p q : ByteArray) : Src := if q = p then .gone else .old q
def sLink (p d q : ByteArray) : Src := if q = d then .old p else .old q
def sMove (p d q : ByteArray) : Src := if q = p then .gone else if q = d then .old p else .old q
theorem new_act (V : Vw) (p : ByteArray) (k : Kd) (f : Bool) : V.new p k f = V.act (sNew p k f) := by
  refine Vw.ext2 (fun q => ?_) (fun a b => ?_)
  · show (if q = p then some k else V.k q) = _
    simp only [Vw.act, sNew]
    by_cases e : q = p
    · rw [if_pos e, if_pos e]
    · rw [if_neg e, if_neg e]
  · show (if a = p ∧ b = p then f else if a = p ∨ b = p then false else V.s a b) = _
    simp only [Vw.act, sNew]
    by_cases ca : a = p <;> by_cases cb : b = p <;> simp [ca, cb]
theorem del_act (V : Vw) (p : ByteArray) : V.del p = V.act (sDel p) := by
  refine Vw.ext2 (fun q => ?_) (fun a b => ?_)
  · show (if q = p then none else V.k q) = _
    simp only [Vw.act, sDel]
    by_cases e : q = p
    · rw [if_pos e, if_pos e]
    · rw [if_neg e, if_neg e]
  · show (!decide (a = p) && !decide (b = p) && V.s a b) = _
    simp only [Vw.act, sDel]
    by_cases ca : a = p <;> by_cases cb : b = p <;> simp [ca, cb]
theorem link_act (V : Vw) (p d : ByteArray) : V.link p d = V.act (sLink p d) := by
  refine Vw.ext2 (fun q => ?_) (fun a b => ?_)
  · show V.k (asP p d q) = _
    simp only [Vw.act, sLink, asP]
    by_cases e : q = d
    · rw [if_pos e, if_pos e]
    · rw [if_neg e, if_neg e]
  · show V.s (asP p d a) (asP p d b) = _
    simp only [Vw.act, sLink, asP]
    by_cases ca : a = d <;> by_cases cb : b = d <;> simp [ca, cb]
theorem move_act (V : Vw) (p d : ByteArray) : (V.link p d).del p = V.act (sMove p d) := by
  refine Vw.ext2 (fun q => ?_) (fun a b => ?_)
  · show (if q = p then none else V.k (asP p d q)) = _
    simp only [Vw.act, sMove, asP]
    by_cases e : q = p
    · rw [if_pos e, if_pos e]
    · rw [if_neg e, if_neg e]
      by_cases c : q = d
      · rw [if_pos c, if_pos c]
      · rw [if_neg c, if_neg c]
  · show (!decide (a = p) && !decide (b = p) && V.s (asP p d a) (asP p d b)) = _
    simp only [Vw.act, sMove, asP]
    by_cases ca : a = p
    · simp [ca]
    · by_cases cb : b = p
      · rw [if_neg ca]
        by_cases c : a = d <;> simp [cb, c]
      · rw [if_neg ca, if_neg cb, decide_eq_false ca, decide_eq_false cb]
        by_cases da : a = d <;> by_cases db : b = d <;> simp [da, db]

def isD (k : Option Kd) : Bool := match k with
  | some (.dir _) => true
  | _ => false
theorem isD_iff {l : List Node} {F : Int → Int × ByteArray} {p : ByteArray} : isD (kindL l F p) = true ↔ ∃ x, nodeAt l p = some x ∧ x.file < 0 := by
  unfold kindL
  cases h : nodeAt l p with
  | none => simp [isD]
  | some x =>
    simp only [Option.map_some, kdOf]
    split
    · simpa [isD]
    · simp [isD]; omega
theorem isF_iff {l : List Node} {F : Int → Int × ByteArray} {p : ByteArray} : isF (kindL l F p) = true ↔ ∃ x, nodeAt l p = some x ∧ 0 ≤ x.file := by
  unfold kindL
  cases h : nodeAt l p with
  | none => simp [isF]
  | some x =>
    simp only [Option.map_some, kdOf]
    split
    · simp [isF]; omega
    · simp [isF]; omega
theorem kind_none {l : List Node} {F : Int → Int × ByteArray} {p : ByteArray} : kindL l F p = none ↔ nodeAt l p = none := by
  unfold kindL
  cases h : nodeAt l p <;> simp
def OkUp (V : Vw) (p : ByteArray) : Prop := ∀ i, i < p.size → p.data.toList[i]? = some 47 → isD (V.k (p.extract 0 i)) = true
theorem lookGo_of (l : List Node) (p : ByteArray) : ∀ (n pos : Nat), (∀ i, pos ≤ i → i < pos + n → p.data.toList[i]? = some 47 → ∃ x, nodeAt l (p.extract 0 i) = some x ∧ x.file < 0) → lookGo l p n pos = 0
  | 0, _, _ => rfl
  | n + 1, pos, h => by
    have ih := lookGo_of l p n (pos + 1) fun i h1 h2 h3 => h i (by omega) (by omega) h3
    rw [lookGo]
    split
    · rename_i hc
      obtain ⟨x, hx, hf⟩ := h pos (Nat.le_refl _) (by omega) hc
      rw [hx]
      simp only
      rw [if_neg (by omega)]
      exact ih
    · exact ih
theorem look0_iff {M : PW} {p : ByteArray} : lookE M.nodes p = 0 ↔ OkUp M.vw p :=
  ⟨fun h i hi h3 => isD_iff.2 (lookGo_dirs M.nodes p p.size 0 h i (Nat.zero_le _) (by omega) h3), fun h => lookGo_of _ _ _ _ fun i _ h2 h3 => isD_iff.1 (h i (by omega) h3)⟩
theorem abs0_iff {M : PW} {p : ByteArray} : absE M.nodes p = 0 ↔ OkUp M.vw p ∧ M.vw.k p = none := by
  rw [← look0_iff]
  show _ ↔ _ ∧ kindL M.nodes M.F p = none
  rw [kind_none]
  constructor
  · intro h
    refine ⟨?_, abs0 h⟩
    unfold absE at h
    split at h
    · cases h
    · exact h
  · rintro ⟨h, hn⟩
    unfold absE lookT
    rw [h, hn]; simp
theorem pre0_iff {M : PW} {p : ByteArray} : preE M.nodes p = 0 ↔ OkUp M.vw p ∧ M.vw.k p ≠ none := by
  rw [← look0_iff]
  show _ ↔ _ ∧ kindL M.nodes M.F p ≠ none
  rw [Ne, kind_none]
  constructor
  · intro h
    obtain ⟨x, hx, _⟩ := pre0 h
    refine ⟨?_, by rw [hx]; simp⟩
    unfold preE at h
    split at h
    · cases h
    · exact h
  · rintro ⟨h, hn⟩
    unfold preE lookT
    rw [h]
    cases hx : nodeAt M.nodes p with
    | none => exact absurd hx hn
    | some x => simp
theorem lookF_at {l : List Node} {p : ByteArray} {x : Node} (h : preE l p = 0) (hx : nodeAt l p = some x) : lookF l p = x.file := by
  obtain ⟨y, hy, e, _⟩ := pre0 h
  rw [hx] at hy; injection hy with hy; rw [e, hy]
theorem fil0_iff {M : PW} {p : ByteArray} : filE M.nodes p = 0 ↔ OkUp M.vw p ∧ isF (M.vw.k p) = true := by
  show _ ↔ _ ∧ isF (kindL M.nodes M.F p) = true
  rw [isF_iff]
  constructor
  · intro h
    obtain ⟨h1, h2⟩ := fil0 h
    obtain ⟨x, hx, e, _⟩ := pre0 h1
    exact ⟨(pre0_iff.1 h1).1, x, hx, by omega⟩
  · rintro ⟨h, x, hx, h0⟩
    have h1 : preE M.nodes p = 0 := pre0_iff.2 ⟨h, fun e => by rw [kind_none.1 (show kindL M.nodes M.F p = none from e)] at hx; cases hx⟩
    have := lookF_at h1 hx
    unfold filE
    rw [if_neg (by omega)]; exact h1
theorem both0_iff {M : PW} {p q : ByteArray} : bothE M.nodes p q = 0 ↔ (OkUp M.vw p ∧ isF (M.vw.k p) = true) ∧ OkUp M.vw q ∧ M.vw.k q = none := by
  rw [← fil0_iff, ← abs0_iff]
  constructor
  · exact both0
  · rintro ⟨h1, h2⟩
    unfold bothE
    rw [if_pos h1]; exact h2
theorem kids0_iff {M : PW} {p : ByteArray} : kidsC M.nodes p = 0 ↔ ∀ q, M.vw.k q ≠ none → parentB q ≠ p := by
  unfold kidsC
  rw [List.countP_eq_zero]
  constructor
  · intro h q hq e
    have hn : nodeAt M.nodes q ≠ none := fun h2 => hq (kind_none.2 h2)
    cases hx : nodeAt M.nodes q with
    | none => exact hn hx
    | some x =>
      obtain ⟨hm, hp⟩ := nodeAt_some hx
      exact h x hm (by simp [hp, e])
  · intro h x hx
    simp only [decide_eq_true_eq]
    refine h x.path fun e => ?_
    exact nodeAt_none.1 (kind_none.1 (show kindL M.nodes M.F x.path = none from e)) x hx rfl
theorem rm0_iff {M : PW} {p : ByteArray} : rmE M p = 0 ↔ OkUp M.vw p ∧ isD (M.vw.k p) = true ∧ ∀ q, M.vw.k q ≠ none → parentB q ≠ p := by
  rw [← kids0_iff]
  show _ ↔ _ ∧ isD (kindL M.nodes M.F p) = true ∧ _
  rw [isD_iff]
  constructor
  · intro h
    unfold rmE at h
    split at h
    · rename_i h1; exact absurd h h1
    · rename_i h1
      have h1 : preE M.nodes p = 0 := by omega
      obtain ⟨x, hx, e, _⟩ := pre0 h1
      split at h
      · cases h
      · split at h
        · cases h
        · exact ⟨(pre0_iff.1 h1).1, ⟨x, hx, by omega⟩, by omega⟩
  · rintro ⟨h, ⟨x, hx, h0⟩, hk⟩
    have h1 : preE M.nodes p = 0 := pre0_iff.2 ⟨h, fun e => by rw [kind_none.1 (show kindL M.nodes M.F p = none from e)] at hx; cases hx⟩
    have := lookF_at h1 hx
    unfold rmE
    rw [if_neg (by omega), if_neg (by omega), if_neg (by omega)]
/-- What an instruction asks of a look. -/
def vOp (V : Vw) (c : Cmd) : Prop :=
  if c.op = 1 ∨ c.op = 6 then OkUp V c.path ∧ V.k c.path = none
  else if c.op = 2 then OkUp V c.path ∧ isD (V.k c.path) = true ∧ ∀ q, V.k q ≠ none → parentB q ≠ c.path
  else if c.op = 5 then OkUp V c.path ∧ isF (V.k c.path) = true
  else if c.op = 8 then OkUp V c.path ∧ V.k c.path ≠ none
  else (OkUp V c.path ∧ isF (V.k c.path) = true) ∧ OkUp V c.dst ∧ V.k c.dst = none
theorem op0_iff (M : PW) (c : Cmd) : opE M c = 0 ↔ vOp M.vw c := by
  unfold opE vOp
  split
  · exact abs0_iff
  · split
    · exact rm0_iff
    · split
      · exact fil0_iff
      · split
        · exact pre0_iff
        · exact both0_iff
/-- When an instruction is done. -/
theorem do0_iff (M : PW) (c : Cmd) (sd : List ByteArray) : doE M c sd = 0 ↔ isOp c.op = true ∧ (c.op = 9 ∨ (firstE (toB c.op) (modeB c.op) c sd = 0 ∧ (growB c.op = true → M.nodes.length < 256) ∧ vOp M.vw c)) := by
  rw [← op0_iff]
  unfold doE
  cases hi : isOp c.op with
  | false => simp
  | true =>
    rw [if_neg (by simp)]
    by_cases h9 : c.op = 9
    · simp [h9]
    · rw [if_neg h9]
      simp only [true_and, h9, false_or]
      by_cases h1 : firstE (toB c.op) (modeB c.op) c sd = 0
      · rw [if_neg (by simp [h1])]
        by_cases h2 : growB c.op = true ∧ 256 ≤ M.nodes.length
        · rw [if_pos h2]
          refine ⟨fun h => absurd h (full_ne _ _), fun h => ?_⟩
          have := h.2.1 h2.1
          omega
        · rw [if_neg h2]
          refine ⟨fun h => ⟨h1, fun hg => ?_, h⟩, fun h => h.2.2⟩
          rcases Nat.lt_or_ge M.nodes.length 256 with h3 | h3
          · exact h3
          · exact absurd ⟨hg, h3⟩ h2
      · rw [if_pos h1]
        exact ⟨fun h => absurd h h1, fun h => absurd h.1 h1⟩
/-- Where what is at a path comes from, behind an instruction. -/
def sigC (c : Cmd) (sd : List ByteArray) (D : ByteArray) : ByteArray → Src :=
  if c.op = 1 then sNew c.path (.dir c.mode) false
  else if c.op = 2 ∨ c.op = 5 then sDel c.path
  else if c.op = 3 then sMove c.path c.dst
  else if c.op = 4 then sLink c.path c.dst
  else if c.op = 6 then sNew c.path (.file c.mode (refData c sd)) true
  else if c.op = 7 then sNew c.dst (.file c.mode D) true
  else .old
def vDo (V : Vw) (c : Cmd) (sd : List ByteArray) : Vw := if c.op = 8 then V.chm c.path c.mode else V.act (sigC c sd (kdData (V.k c.path)))
theorem act_old (V : Vw) : V.act .old = V := rfl
theorem kd_data {M : PW} {x : Node} (hx : nodeAt M.nodes x.path = some x) (h0 : 0 ≤ x.file) : kdData (M.vw.k x.path) = dataOf M x.file := by
  show kdData (kindL M.nodes M.F x.path) = _
  rw [kindL, hx]
  simp only [Option.map_some, kdOf, if_neg (by omega : ¬ x.file < 0), kdData]
  unfold PW.F dataOf
  cases fileOf M x.file <;> rfl
theorem none_at {M : PW} {p : ByteArray} (h : M.vw.k p = none) : nodeAt M.nodes p = none := kind_none.1 (show kindL M.nodes M.F p = none from h)
/-- What an instruction that is done makes of the look. -/
theorem vw_do {M : PW} (hI : M.Inv) {c : Cmd} {sd : List ByteArray} (h : doE M c sd = 0) : (doM M c sd).vw = vDo M.vw c sd := by
  have h' := (do0_iff M c sd).1 h
  obtain ⟨hop, h'⟩ := h'
  unfold doM vDo
  by_cases h9 : c.op = 9
  · rw [if_neg (fun e => e.2 h9), if_neg (by omega)]
    unfold sigC
    rw [if_neg (by omega), if_neg (by omega), if_neg (by omega), if_neg (by omega), if_neg (by omega), if_neg (by omega)]
    rfl
  · rw [if_pos ⟨h, h9⟩]
    obtain ⟨_, _, hv⟩ := h'.resolve_left h9
    have hop' : 1 ≤ c.op ∧ c.op ≤ 9 := by simpa [isOp] using hop
    have hk : c.op = 1 ∨ c.op = 2 ∨ c.op = 3 ∨ c.op = 4 ∨ c.op = 5 ∨ c.op = 6 ∨ c.op = 7 ∨ c.op = 8 := by omega
    have tk : ∀ {p : ByteArray} {x : Node}, nodeAt M.nodes p = some x → (M.takeAt p).vw = M.vw.act (sDel p) := fun {p x} hx => by
      obtain ⟨hm, hp⟩ := nodeAt_some hx
      unfold PW.takeAt
      rw [hx]
      simp only
      rw [vw_take, hp, del_act]
    have both : vOp M.vw c → c.op = 3 ∨ c.op = 4 ∨ c.op = 7 → ∃ x, nodeAt M.nodes c.path = some x ∧ 0 ≤ x.file ∧ lookF M.nodes c.path = x.file ∧ x.path = c.path ∧ nodeAt M.nodes c.dst = none := fun hv h3 => by
      unfold vOp at hv
      rw [if_neg (by omega), if_neg (by omega), if_neg (by omega), if_neg (by omega)] at hv
      obtain ⟨⟨h1, h2⟩, h3, h4⟩ := hv
      obtain ⟨x, hx, h0⟩ := isF_iff.1 (show isF (kindL M.nodes M.F c.path) = true from h2)
      exact ⟨x, hx, h0, lookF_at (pre0_iff.2 ⟨h1, fun e => by rw [e] at h2; cases h2⟩) hx, (nodeAt_some hx).2, none_at h4⟩
    unfold opM sigC
    rcases hk with e | e | e | e | e | e | e | e
    · unfold vOp at hv
      rw [if_pos (.inl e)] at hv
      rw [if_pos e, if_neg (by omega), if_pos e, ← new_act]
      exact vw_put (x := ⟨c.path, -1, c.mode, c.hp⟩) (none_at hv.2) (by show (-1 : Int) < 0; decide)
    · unfold vOp at hv
      rw [if_neg (by omega), if_pos e] at hv
      obtain ⟨x, hx, _⟩ := isD_iff.1 (show isD (kindL M.nodes M.F c.path) = true from hv.2.1)
      rw [if_neg (by omega), if_pos (.inl e), if_neg (by omega), if_neg (by omega), if_pos (.inl e)]
      exact tk hx
    · obtain ⟨x, hx, h0, e1, hp, hn⟩ := both hv (.inl e)
      rw [if_neg (by omega), if_neg (by omega), if_pos e, if_neg (by omega), if_neg (by omega), if_neg (by omega), if_pos e]
      have hxm := (nodeAt_some hx).1
      have hl := vw_link (M := M) (x := ⟨c.dst, lookF M.nodes c.path, 0, c.hd⟩) (y := x) hn (by rw [hp]; exact hx) h0 e1
      have hfi : x.file ∈ M.files.map (·.id) := by rcases hI.file hxm with k | k; omega; exact k
      have hput : (M.put ⟨c.dst, lookF M.nodes c.path, 0, c.hd⟩).Inv := by
        unfold vOp at hv
        rw [if_neg (by omega), if_neg (by omega), if_neg (by omega), if_neg (by omega)] at hv
        have hf := h'.resolve_left h9
        refine inv_put (x := ⟨c.dst, lookF M.nodes c.path, 0, c.hd⟩) hI hn ((first0 hf.1).2.2.1 (by rw [e]; decide)) (abs_dir hI (abs0_iff.2 hv.2)) (.inr ⟨by simp only; omega, rfl, by simp only [e1]; exact hfi⟩)
      have hm2 : x ∈ (M.put ⟨c.dst, lookF M.nodes c.path, 0, c.hd⟩).nodes := List.mem_append.2 (.inl hxm)
      have hat : nodeAt (M.put ⟨c.dst, lookF M.nodes c.path, 0, c.hd⟩).nodes c.path = some x := (nodeAt_iff hput.apart).2 ⟨hm2, hp⟩
      simp only [PW.takeAt, hat]
      rw [vw_take, hl, hp, move_act]
    · obtain ⟨x, hx, h0, e1, hp, hn⟩ := both hv (.inr (.inl e))
      rw [if_neg (by omega), if_neg (by omega), if_neg (by omega), if_pos e, if_neg (by omega), if_neg (by omega), if_neg (by omega), if_neg (by omega), if_pos e, ← link_act]
      have hl := vw_link (M := M) (x := ⟨c.dst, lookF M.nodes c.path, 0, c.hd⟩) (y := x) hn (by rw [hp]; exact hx) h0 e1
      rw [hl, hp]
    · unfold vOp at hv
      rw [if_neg (by omega), if_neg (by omega), if_pos e] at hv
      obtain ⟨x, hx, _⟩ := isF_iff.1 (show isF (kindL M.nodes M.F c.path) = true from hv.2)
      rw [if_neg (by omega), if_pos (.inr e), if_neg (by omega), if_neg (by omega), if_pos (.inr e)]
      exact tk hx
    · unfold vOp at hv
      rw [if_pos (.inr e)] at hv
      rw [if_neg (by omega), if_neg (by omega), if_neg (by omega), if_neg (by omega), if_pos e, if_neg (by omega), if_neg (by omega), if_neg (by omega), if_neg (by omega), if_neg (by omega), if_pos e, ← new_act]
      exact vw_made hI (none_at hv.2)
    · obtain ⟨x, hx, h0, e1, hp, hn⟩ := both hv (.inr (.inr e))
      rw [if_neg (by omega), if_neg (by omega), if_neg (by omega), if_neg (by omega), if_neg (by omega), if_pos e, if_neg (by omega), if_neg (by omega), if_neg (by omega), if_neg (by omega), if_neg (by omega), if_neg (by omega), if_pos e, ← new_act]
      have hd := kd_data (M := M) (x := x) (by rw [hp]; exact hx) h0
      rw [hp] at hd
      rw [vw_made hI hn, e1, hd]
    · unfold vOp at hv
      rw [if_neg (by omega), if_neg (by omega), if_neg (by omega), if_pos e] at hv
      rw [if_neg (by omega), if_neg (by omega), if_neg (by omega), if_neg (by omega), if_neg (by omega), if_neg (by omega), if_pos e]
      cases hx : nodeAt M.nodes c.path with
      | none => exact absurd (kind_none.2 hx) hv.2
      | some x =>
        have hp := (nodeAt_some hx).2
        rw [← hp] at hx ⊢
        exact vw_chmod hI hx c.mode
/-- Worlds that look alike look alike behind an instruction. -/
theorem SameV.doM {M N : PW} (h : SameV M N) (hM : M.Inv) (hN : N.Inv) (hl : M.nodes.length ≤ 256) (c : Cmd) (sd : List ByteArray) : SameV (doM M c sd) (doM N c sd) := by
  have hE := h.doE hM hN c sd
  have hn := h.length hM hN
  by_cases h0 : Go.Proofs.Ytanaccoelifcpaa.doE M c sd = 0
  · have e := h.vw hM.apart hN.apart
    refine SameV.of_vw ?_ (inv_do hM hl c sd).1.apart (inv_do hN (by omega) c sd).1.apart
    rw [vw_do hM h0, vw_do hN (hE ▸ h0), e]
  · rw [doM_same h0, doM_same (by rw [← hE]; exact h0)]
    exact h
end Go.Proofs.Ytanaccoelifcpaa

namespace Go.Proofs.Ytanaccoelifcpaa
open Go.RowKit

/-- A world that holds to what a world holds to, and is not too great. -/
structure WOkP (M : PW) : Prop where
  inv : M.Inv
  len : M.nodes.length ≤ 256
theorem WOkP.do {M : PW} (h : WOkP M) (c : Cmd) (sd : List ByteArray) : WOkP (doM M c sd) := ⟨(inv_do h.inv h.len c sd).1, (inv_do h.inv h.len c sd).2.1⟩
theorem WOkP.run (sd : List ByteArray) : ∀ (cs : List Cmd) {M : PW} (_ : WOkP M) (k : Nat), WOkP (runG sd cs M k).1
  | [], M, h, k => h
  | c :: cs, M, h, k => by
    rw [runG]
    split
    · exact WOkP.run sd cs (h.do c sd) (k + 1)
    · exact h
theorem SameV.do {M N : PW} (h : SameV M N) (hM : WOkP M) (hN : WOkP N) (c : Cmd) (sd : List ByteArray) : SameV (Go.Proofs.Ytanaccoelifcpaa.doM M c sd) (Go.Proofs.Ytanaccoelifcpaa.doM N c sd) := h.doM hM.inv hN.inv hM.len c sd
theorem SameV.run (sd : List ByteArray) : ∀ (cs : List Cmd) {M N : PW} (_ : SameV M N) (_ : WOkP M) (_ : WOkP N) (k : Nat), SameV (runG sd cs M k).1 (runG sd cs N k).1 ∧ (runG sd cs M k).2 = (runG sd cs N k).2
  | [], M, N, h, _, _, k => ⟨h, rfl⟩
  | c :: cs, M, N, h, hM, hN, k => by
    have e := h.doE hM.inv hN.inv c sd
    rw [runG, runG, e]
    split
    · exact SameV.run sd cs (h.do hM hN c sd) (hM.do c sd) (hN.do c sd) (k + 1)
    · exact ⟨h, rfl⟩
theorem runG_shift (sd : List ByteArray) (j : Nat) : ∀ (cs : List Cmd) (M : PW) (k : Nat), runG sd cs M (k + j) = ((runG sd cs M k).1, (runG sd cs M k).2.1 + j, (runG sd cs M k).2.2)
  | [], M, k => rfl
  | c :: cs, M, k => by
    rw [runG, runG]
    split
    · rw [show k + j + 1 = k + 1 + j by omega, runG_shift sd j cs]
    · rfl
theorem runG_app (sd : List ByteArray) (b : List Cmd) : ∀ (a : List Cmd) (M : PW) (k : Nat), runG sd (a ++ b) M k = if (runG sd a M k).2.2 = 0 then runG sd b (runG sd a M k).1 (runG sd a M k).2.1 else runG sd a M k
  | [], M, k => by rw [List.nil_append, runG, if_pos rfl]
  | c :: a, M, k => by
    rw [List.cons_append, runG, runG]
    split
    · exact runG_app sd b a _ _
    · rfl
theorem runG_all (sd : List ByteArray) : ∀ (a : List Cmd) (M : PW) (k : Nat), (runG sd a M k).2.2 = 0 → (runG sd a M k).2.1 = k + a.length
  | [], M, k, _ => rfl
  | c :: a, M, k, h => by
    rw [runG] at h ⊢
    split
    · rename_i h0
      rw [if_pos h0] at h
      rw [runG_all sd a _ _ h, List.length_cons]; omega
    · rename_i h0
      rw [if_neg h0] at h
      exact absurd h h0
theorem runG_le (sd : List ByteArray) : ∀ (a : List Cmd) (M : PW) (k : Nat), (runG sd a M k).2.1 ≤ k + a.length
  | [], M, k => Nat.le_refl _
  | c :: a, M, k => by
    rw [runG]
    split
    · have := runG_le sd a (doM M c sd) (k + 1)
      rw [List.length_cons]; omega
    · simp only [List.length_cons]; omega
/-- What Run says of any tree. -/
def runR (t : TV) (ds : List ByteArray) (cs : List Cmd) (sd : List ByteArray) : PW × Nat × Int := if looseE t = 0 then runG sd cs (openM t ds) 0 else (openM zeroTV [], 0, looseE t)
/-- A tree that a world was told as, somewhere. -/
def TellsM (M : PW) (u : TV) (es : List ByteArray) : Prop := ∃ b w S, ToldAs M b w S u ∧ es = dsOf M S
theorem zero_told (b : Nat) (w : World) : ToldAs (openM zeroTV []) b w [] zeroTV :=
  ⟨List.Perm.refl _, List.Pairwise.nil, rfl, rfl, rfl, rfl, rfl, ⟨rfl, .inl ⟨rfl, rfl⟩⟩, ⟨rfl, .inl ⟨rfl, rfl⟩⟩, FRows.nil _ _ _⟩
theorem zero_ok : WOkP (openM zeroTV []) := ⟨inv_open (good_of_loose (by kernel_rfl)) rfl rfl (fun k x d h _ => (by simp [zeroTV] at h)), by show ([] : List Node).length ≤ 256; decide⟩
theorem open_ok {t : TV} {ds : List ByteArray} {w : World} (h : TreeD w t ds) (hl : looseE t = 0) : WOkP (openM t ds) := by
  have hG := good_of_loose hl
  refine ⟨inv_open hG h.tree.fl h.dat.len fun k x d hx hd => ?_, ?_⟩
  · obtain ⟨d', hd', e, _⟩ := h.dat.get hx
    rw [hd] at hd'; injection hd' with hd'; rw [hd', e]
  · show t.nodes.length ≤ 256
    rw [h.tree.nl]; exact hG.nn
theorem runR_ok {t : TV} {ds : List ByteArray} {w : World} (h : TreeD w t ds) (cs : List Cmd) (sd : List ByteArray) : WOkP (runR t ds cs sd).1 := by
  unfold runR
  split
  · rename_i hl; exact WOkP.run sd cs (open_ok h hl) 0
  · exact zero_ok
theorem told_exactB {M N : PW} (hM : WOkP M) (hN : WOkP N) (hV : SameV M N) {u v : TV} {es fs : List ByteArray} (h : TellsM M u es) (k : TellsM N v fs) : exactB u v es fs = true := by
  obtain ⟨_, _, _, h, rfl⟩ := h
  obtain ⟨_, _, _, k, rfl⟩ := k
  exact told_exact hM.inv hN.inv hM.len hN.len hV h k
theorem told_opened {M : PW} (hM : WOkP M) {u : TV} {es : List ByteArray} (h : TellsM M u es) : looseE u = 0 ∧ SameV (openM u es) M := by
  obtain ⟨_, _, _, h, rfl⟩ := h
  exact ⟨loose_of_P (told_loose hM.inv hM.len h), told_open hM.inv hM.len h⟩
theorem ToldAs.tells {M : PW} {b : Nat} {w : World} {S : List Node} {u : TV} (h : ToldAs M b w S u) : TellsM M u (dsOf M S) := ⟨_, _, S, h, rfl⟩
theorem Run_any (t : TV) (ds : List ByteArray) (cs : List Cmd) (hco : ∀ c ∈ cs, OpOk c) (A : Option Addr) (n cap : Nat) (SA : Option Addr) (sn sc : Nat) (ss : List SC) (sd : List ByteArray) (w : World) (h : TreeD w t ds) (hA : Sl w w.heap.size 5 A n (cs.flatMap Cmd.list)) (hn : cs.length = n) (hn4 : n ≤ 4096) (hS : StockAt w SA sn ss sd) :
    Calls Try.prog 7 #[t.val, .slice A n cap, .slice SA sn sc] w fun e w' => ∃ u S, e = .returned (.tuple #[u.val, .int .i64 (runR t ds cs sd).2.1, .int .i64 (runR t ds cs sd).2.2]) ∧ ToldAs (runR t ds cs sd).1 w.heap.size w' S u ∧ Below w.heap.size w w' := by
  by_cases hl : looseE t = 0
  · have e : runR t ds cs sd = runG sd cs (openM t ds) 0 := by unfold runR; rw [if_pos hl]
    rw [e]
    refine (run_any t ds cs hco A n cap SA sn sc ss sd w h hl hA hn hn4 hS).mono ?_
    rintro e w' ⟨u, he, ⟨S, hS⟩, hb⟩
    exact ⟨u, S, he, hS, hb⟩
  · have e : runR t ds cs sd = (openM zeroTV [], 0, looseE t) := by unfold runR; rw [if_neg hl]
    rw [e]
    refine (run_no (looseE t) t A n cap SA sn sc w fun W hW => all_no t A n cap SA sn sc _ W (h.tree.keep hW) hl).mono ?_
    rintro e w' ⟨he, hb⟩
    exact ⟨zeroTV, [], he, zero_told _ _, hb⟩
/-- What stands behind a call whose tree is kept in a block of its own. -/
def TreeCut (M : PW) (w : World) (p : Value) (wx : World) : Prop :=
  ∃ u es g, p = .pointer (some ⟨g, 0, none⟩) ∧ Blk wx g 25 #[.slice u.NA u.nn u.nc, .slice u.FA u.fn u.fc] ∧ w.heap.size ≤ g ∧ TreeD wx u es ∧ TellsM M u es ∧ Below w.heap.size w wx
theorem TreeCut.alloc {M : PW} {w w5 : World} {b : Nat} {S : List Node} {u : TV} (h : ToldAs M b w5 S u) (hb : Below w.heap.size w w5) : TreeCut M w (.pointer (some ⟨w5.heap.size, 0, none⟩)) (w5.alloc (.cells #[.slice u.NA u.nn u.nc, .slice u.FA u.fn u.fc] 25)) :=
  ⟨u, _, _, rfl, Blk.new _ _ _, hb.size, h.tree.keep ((Below.refl w5.heap.size w5).alloc (Nat.le_refl _) _), h.tells, hb.alloc hb.size _⟩
theorem TreeCut.store {M : PW} {w w5 w6 : World} {b g : Nat} {S : List Node} {u : TV} {cs : Array Value} (h : ToldAs M b w5 S u) (hb : Below w.heap.size w w5) (hZ : Blk w5 g 25 cs) (hB : Blk w6 g 25 #[.slice u.NA u.nn u.nc, .slice u.FA u.fn u.fc]) (hg : w5.grownBy w6 (some g)) (hw : w.heap.size ≤ g) : TreeCut M w (.pointer (some ⟨g, 0, none⟩)) w6 :=
  ⟨u, _, g, rfl, hB, hw, (h.store hZ hg).tree, (h.store hZ hg).tells, hb.trans (below_grown hg hb.size (fun g' e => by injection e with e; omega))⟩
/-- A slice from an element on. -/
theorem Sl.rest {w : World} {B sz n c : Nat} {A : Option Addr} {L : List Value} (h : Sl w B sz A n L) {k : Nat} (hk : k ≤ n) (hnc : n ≤ c) : Sl w B sz (if c = k then A else A.map (fun a => a.add (k * sz))) (n - k) (L.drop (k * sz)) := by
  refine ⟨by rw [List.length_drop, h.1, Nat.sub_mul], fun h0 => ?_⟩
  obtain ⟨b, o, rfl, hb, hr⟩ := h.2 (by omega)
  rw [if_neg (by omega)]
  exact ⟨b, o + k * sz, by simp [add_at], hb, hr.drop _⟩
/-- Run of a list, and of its two parts. -/
theorem runR_split {t : TV} {ds : List ByteArray} {w : World} (h : TreeD w t ds) (cs : List Cmd) (sd : List ByteArray) (k : Nat) (hk : k ≤ cs.length) :
    ((runR t ds (cs.take k) sd).2.2 ≠ 0 → runR t ds cs sd = runR t ds (cs.take k) sd) ∧
    ((runR t ds (cs.take k) sd).2.2 = 0 → ∀ u es, TellsM (runR t ds (cs.take k) sd).1 u es → (runR t ds cs sd).2.2 = (runR u es (cs.drop k) sd).2.2 ∧ (runR t ds cs sd).2.1 = k + (runR u es (cs.drop k) sd).2.1 ∧ ∀ w', TreeD w' u es → SameV (runR t ds cs sd).1 (runR u es (cs.drop k) sd).1) := by
  by_cases hl : looseE t = 0
  · have e : ∀ cs, runR t ds cs sd = runG sd cs (openM t ds) 0 := fun cs => by unfold runR; rw [if_pos hl]
    have ha := runG_app sd (cs.drop k) (cs.take k) (openM t ds) 0
    rw [List.take_append_drop] at ha
    rw [e, e]
    refine ⟨fun h0 => by rw [ha, if_neg h0], fun h0 u es hu => ?_⟩
    have hall := runG_all sd (cs.take k) (openM t ds) 0 h0
    rw [List.length_take, Nat.min_eq_left hk, Nat.zero_add] at hall
    have hok := WOkP.run sd (cs.take k) (open_ok h hl) 0
    obtain ⟨hlu, hV⟩ := told_opened hok hu
    have eu : runR u es (cs.drop k) sd = runG sd (cs.drop k) (openM u es) 0 := by unfold runR; rw [if_pos hlu]
    rw [eu, ha, if_pos h0, hall]
    have hs := runG_shift sd k (cs.drop k) (runG sd (cs.take k) (openM t ds) 0).1 0
    rw [Nat.zero_add] at hs
    rw [hs]
    have key : ∀ w', TreeD w' u es → SameV (runG sd (cs.drop k) (runG sd (cs.take k) (openM t ds) 0).1 0).1 (runG sd (cs.drop k) (openM u es) 0).1 ∧ (runG sd (cs.drop k) (runG sd (cs.take k) (openM t ds) 0).1 0).2 = (runG sd (cs.drop k) (openM u es) 0).2 := fun w' hw => hV.symm.run sd (cs.drop k) hok (open_ok hw hlu) 0
    obtain ⟨b, w2, S, hT, rfl⟩ := hu
    have k2 := (key w2 hT.tree).2
    refine ⟨by show (runG sd (cs.drop k) (runG sd (cs.take k) (openM t ds) 0).1 0).2.2 = _; rw [k2], ?_, fun w' hw => (key w' hw).1⟩
    show (runG sd (cs.drop k) (runG sd (cs.take k) (openM t ds) 0).1 0).2.1 + k = _
    rw [k2]; omega
  · have e : ∀ cs, runR t ds cs sd = (openM zeroTV [], 0, looseE t) := fun cs => by unfold runR; rw [if_neg hl]
    rw [e, e]
    exact ⟨fun _ => rfl, fun h0 => absurd h0 hl⟩

/-- What Do says and makes of any tree. -/
def doW (t : TV) (ds : List ByteArray) (c : Cmd) (sd : List ByteArray) : PW := if DoE t ds c sd = 0 then doM (openM t ds) c sd else openM zeroTV []
theorem doE_loose {t : TV} {ds : List ByteArray} {c : Cmd} {sd : List ByteArray} (h : DoE t ds c sd = 0) : looseE t = 0 ∧ doE (openM t ds) c sd = 0 := by
  unfold DoE at h
  split at h
  · rename_i hl; exact ⟨hl, h⟩
  · rename_i hl; exact absurd h hl
theorem doW_ok {t : TV} {ds : List ByteArray} {w : World} (h : TreeD w t ds) (c : Cmd) (sd : List ByteArray) : WOkP (doW t ds c sd) := by
  unfold doW
  split
  · rename_i hE; exact (open_ok h (doE_loose hE).1).do c sd
  · exact zero_ok
/-- A told tree and the tree whose world looks so. -/
theorem told_back {N : PW} (hN : WOkP N) {t : TV} {ds : List ByteArray} {w : World} (h : TreeD w t ds) (hl : looseE t = 0) (hV : SameV N (openM t ds)) {v : TV} {fs : List ByteArray} (k : TellsM N v fs) : exactB v t fs ds = true := by
  obtain ⟨b, w2, S, k, rfl⟩ := k
  have hL := looseP_of hl
  exact exact_of_view (told_loose hN.inv hN.len k) hL k.fl h.tree.fl (by rw [dsOf, List.length_map, k.fl, k.fn]) h.dat.len (fun p => (told_kind hN.inv k p).trans ((hV.kind p).trans (open_kind hL.good p))) (fun p q => (told_sameL k p q).trans (hV.same p q))
theorem told_other {N : PW} (hN : WOkP N) {t : TV} {ds : List ByteArray} {p : ByteArray} (h0 : (openM t ds).vw.k p = none) (h1 : N.vw.k p ≠ none) {u : TV} {es : List ByteArray} (k : TellsM N u es) : exactB u t es ds = false := by
  cases hx : exactB u t es ds with
  | false => rfl
  | true =>
    obtain ⟨b, w2, S, k, rfl⟩ := k
    have e : u.nodes = t.nodes := by
      unfold exactB at hx
      simp only [Bool.and_eq_true, decide_eq_true_eq] at hx
      exact hx.1
    have hk := told_kind hN.inv k p
    have hn : nodeAt t.nodes p = none := none_at (M := openM t ds) h0
    rw [← e] at hn
    have : kindL u.nodes (treeF u (dsOf N S)) p = none := kind_none.2 hn
    exact absurd (hk.symm.trans this) h1

theorem firstE_ok {T : Bool} {c : Cmd} {ds : List ByteArray} (h6 : c.op ≠ 6) (hp : validL c.path.data.toList = true) (hd : T = true → validL c.dst.data.toList = true) : firstE T false c ds = 0 := by
  unfold firstE
  rw [if_neg (by simp), if_neg, if_neg, if_neg h6]
  · rintro (h | ⟨h1, h2⟩)
    · rw [hp] at h; cases h
    · rw [hd h1] at h2; cases h2
  · rintro (h | ⟨h1, h2⟩)
    · exact valid_ne hp h
    · exact valid_ne (hd h1) h2
/-- Prefixes that are directories stay so where a file or nothing was turned. -/
theorem OkUp.act {V : Vw} {p : ByteArray} (h : OkUp V p) {σ : ByteArray → Src} (hσ : ∀ r, isD (V.k r) = true → σ r = .old r) : OkUp (V.act σ) p := fun i hi h3 => by
  have := h i hi h3
  show isD (match σ (p.extract 0 i) with | .old r => V.k r | .gone => none | .fresh k _ => some k) = true
  rw [hσ _ this]
  exact this
theorem act_k {V : Vw} {σ : ByteArray → Src} {r q : ByteArray} (h : σ r = .old q) : (V.act σ).k r = V.k q := by simp only [Vw.act, h]
theorem act_fresh {V : Vw} {σ : ByteArray → Src} {r : ByteArray} {k : Kd} {f : Bool} (h : σ r = .fresh k f) : (V.act σ).k r = some k := by simp only [Vw.act, h]
theorem act_gone {V : Vw} {σ : ByteArray → Src} {r : ByteArray} (h : σ r = .gone) : (V.act σ).k r = none := by simp only [Vw.act, h]
theorem sB_none {l : List Node} {F : Int → Int × ByteArray} {p : ByteArray} (h : kindL l F p = none) (q : ByteArray) : sB l p q = false ∧ sB l q p = false := by
  have hn := kind_none.1 h
  unfold sB
  rw [hn]
  refine ⟨rfl, ?_⟩
  split
  · rename_i h1 h2; cases h2
  · rfl
/-- A look from which p, which was not there, is taken away again. -/
theorem back_del {M : PW} {p : ByteArray} (h : M.vw.k p = none) {σ : ByteArray → Src} (hσ : ∀ r, r ≠ p → σ r = .old r) : (M.vw.act σ).act (sDel p) = M.vw := by
  have hs := fun q => sB_none (show kindL M.nodes M.F p = none from h) q
  refine Vw.ext2 (fun q => ?_) (fun a b => ?_)
  · by_cases e : q = p
    · rw [act_gone (by unfold sDel; rw [if_pos e]), e, h]
    · rw [act_k (by unfold sDel; rw [if_neg e]), act_k (hσ q e)]
  · show (match sDel p a, sDel p b with
      | .old r, .old t => (M.vw.act σ).s r t
      | .fresh _ f, .fresh _ _ => f && decide (a = b)
      | _, _ => false) = sB M.nodes a b
    unfold sDel
    by_cases ca : a = p
    · rw [if_pos ca, ca, (hs b).1]
    · by_cases cb : b = p
      · rw [if_pos cb, if_neg ca, cb, (hs a).2]
      · rw [if_neg ca, if_neg cb]
        show (match σ a, σ b with
          | .old r, .old t => M.vw.s r t
          | .fresh _ f, .fresh _ _ => f && decide (a = b)
          | _, _ => false) = sB M.nodes a b
        rw [hσ a ca, hσ b cb]
        rfl
theorem back_move {M : PW} {p q : ByteArray} (h : M.vw.k p = none) (hq : M.vw.k q ≠ none) : (M.vw.act (sMove q p)).act (sMove p q) = M.vw := by
  have hs := fun q => sB_none (show kindL M.nodes M.F p = none from h) q
  have hne : ¬ q = p := fun e => hq (by rw [e]; exact h)
  have hne' : ¬ p = q := fun e => hne e.symm
  have m1 : ∀ a, a = p → sMove p q a = .gone := fun a e => by unfold sMove; rw [if_pos e]
  have m2 : ∀ a, a = q → sMove p q a = .old p := fun a e => by unfold sMove; rw [if_neg (by rw [e]; exact hne), if_pos e]
  have m3 : ∀ a, ¬ a = p → ¬ a = q → sMove p q a = .old a := fun a e f => by unfold sMove; rw [if_neg e, if_neg f]
  have n1 : sMove q p p = .old q := by unfold sMove; rw [if_neg hne', if_pos rfl]
  have n3 : ∀ a, ¬ a = p → ¬ a = q → sMove q p a = .old a := fun a e f => by unfold sMove; rw [if_neg f, if_neg e]
  refine Vw.ext2 (fun a => ?_) (fun a b => ?_)
  · by_cases e : a = p
    · rw [act_gone (m1 a e), e, h]
    · by_cases f : a = q
      · rw [act_k (m2 a f), act_k n1, f]
      · rw [act_k (m3 a e f), act_k (n3 a e f)]
  · show (match sMove p q a, sMove p q b with
      | .old r, .old t => (M.vw.act (sMove q p)).s r t
      | .fresh _ f, .fresh _ _ => f && decide (a = b)
      | _, _ => false) = sB M.nodes a b
    have inner : ∀ r t x y : ByteArray, sMove q p r = .old x → sMove q p t = .old y → (M.vw.act (sMove q p)).s r t = sB M.nodes x y := fun r t x y h1 h2 => by
      show (match sMove q p r, sMove q p t with
        | .old r, .old t => M.vw.s r t
        | .fresh _ f, .fresh _ _ => f && decide (r = t)
        | _, _ => false) = _
      rw [h1, h2]; rfl
    by_cases ca : a = p
    · rw [m1 a ca, ca, (hs b).1]
    · by_cases cb : b = p
      · rw [m1 b cb, cb, (hs a).2]
        by_cases fa : a = q
        · rw [m2 a fa]
        · rw [m3 a ca fa]
      · by_cases fa : a = q <;> by_cases fb : b = q
        · rw [m2 a fa, m2 b fb, fa, fb]; exact inner _ _ _ _ n1 n1
        · rw [m2 a fa, m3 b cb fb, fa]; exact inner _ _ _ _ n1 (n3 b cb fb)
        · rw [m3 a ca fa, m2 b fb, fb]; exact inner _ _ _ _ (n3 a ca fa) n1
        · rw [m3 a ca fa, m3 b cb fb]; exact inner _ _ _ _ (n3 a ca fa) (n3 b cb fb)

/-- The pairs of ModelUndo. -/
def undoP (p q : ByteArray) (mode : Int) (hp : p.size ≤ 9223372036854775807) (hq : q.size ≤ 9223372036854775807) : List (Cmd × Cmd) :=
  [(⟨1, p, ByteArray.empty, mode, 0, hp, by decide⟩, ⟨2, p, ByteArray.empty, 0, 0, hp, by decide⟩),
   (⟨4, q, p, 0, 0, hq, hp⟩, ⟨5, p, ByteArray.empty, 0, 0, hp, by decide⟩),
   (⟨3, q, p, 0, 0, hq, hp⟩, ⟨3, p, q, 0, 0, hp, hq⟩),
   (⟨6, p, ByteArray.empty, mode, 0, hp, by decide⟩, ⟨5, p, ByteArray.empty, 0, 0, hp, by decide⟩),
   (⟨7, q, p, mode, 0, hq, hp⟩, ⟨5, p, ByteArray.empty, 0, 0, hp, by decide⟩)]
theorem undo_do {M : PW} (hM : WOkP M) {p q : ByteArray} {mode : Int} {hp : p.size ≤ 9223372036854775807} {hq : q.size ≤ 9223372036854775807} {sd : List ByteArray} {x : Cmd × Cmd} (hx : x ∈ undoP p q mode hp hq) (h : doE M x.1 sd = 0) :
    M.vw.k p = none ∧ (doM M x.1 sd).vw.k p ≠ none ∧ doE (doM M x.1 sd) x.2 sd = 0 ∧ (doM (doM M x.1 sd) x.2 sd).vw = M.vw := by
  have hvw := vw_do hM.inv h
  have hN := hM.do x.1 sd
  have h' := ((do0_iff M x.1 sd).1 h).2
  have fin : ∀ (y : Cmd), x.2 = y → y.op = 2 ∨ y.op = 5 ∨ y.op = 3 → validL y.path.data.toList = true → (y.op = 3 → validL y.dst.data.toList = true) → vOp (doM M x.1 sd).vw y → doE (doM M x.1 sd) x.2 sd = 0 := fun y e ho v1 v2 hv => by
    rw [e]
    refine (do0_iff _ _ _).2 ⟨by simp [isOp]; omega, .inr ⟨?_, fun hg => ?_, hv⟩⟩
    · have hm : modeB y.op = false := by simp [modeB]; omega
      rw [hm]
      exact firstE_ok (by omega) v1 fun ht => v2 (by simp [toB] at ht; omega)
    · simp [growB] at hg; omega
  simp only [undoP, List.mem_cons, List.not_mem_nil, or_false] at hx
  rcases hx with rfl | rfl | rfl | rfl | rfl
  · obtain ⟨f1, _, hv⟩ := h'.resolve_left (by simp)
    obtain ⟨_, v1, v2, _⟩ := first0 f1
    unfold vOp at hv
    rw [if_pos (.inl rfl)] at hv
    obtain ⟨k1, k2⟩ := hv
    simp only at k1 k2 v1
    unfold vDo sigC at hvw
    rw [if_neg (by simp), if_pos rfl] at hvw
    have hp1 : (M.vw.act (sNew p (.dir mode) false)).k p = some (.dir mode) := act_fresh (f := false) (by unfold sNew; rw [if_pos rfl])
    have hd : doE (doM M ⟨1, p, ByteArray.empty, mode, 0, hp, by decide⟩ sd) ⟨2, p, ByteArray.empty, 0, 0, hp, by decide⟩ sd = 0 := by
      refine fin _ rfl (.inl rfl) v1 (fun e => absurd e (by simp)) ?_
      unfold vOp
      rw [if_neg (by simp), if_pos rfl, hvw]
      refine ⟨k1.act fun r hr => ?_, by simp only; rw [hp1]; rfl, fun r hr => ?_⟩
      · unfold sNew
        rw [if_neg]
        intro e; rw [e, k2] at hr; cases hr
      · simp only
        by_cases e : r = p
        · intro e2
          have := parent_lt v1
          rw [e, ] at e2
          rw [e2] at this
          exact lt_irr _ this
        · rw [act_k (q := r) (by unfold sNew; rw [if_neg e])] at hr
          intro e2
          cases hz : nodeAt M.nodes r with
          | none => exact hr (kind_none.2 hz)
          | some z =>
            obtain ⟨hzm, hzp⟩ := nodeAt_some hz
            rcases hM.inv.dir z hzm with h1 | ⟨y, hy, h1, _⟩
            · rw [hzp, e2] at h1
              exact valid_ne v1 h1
            · have : y.path = p := ba_ext (by rw [show y.path.data.toList = pathL y from rfl, h1, hzp, e2])
              exact nodeAt_none.1 (none_at k2) y hy this
    refine ⟨k2, by rw [hvw, hp1]; simp, hd, ?_⟩
    rw [vw_do hN.inv hd, hvw]
    unfold vDo sigC
    rw [if_neg (by simp), if_neg (by simp), if_pos (.inl rfl)]
    exact back_del k2 fun r hr => by unfold sNew; rw [if_neg hr]
  · obtain ⟨f1, _, hv⟩ := h'.resolve_left (by simp)
    obtain ⟨_, v1, v2, _⟩ := first0 f1
    unfold vOp at hv
    rw [if_neg (by simp), if_neg (by simp), if_neg (by simp), if_neg (by simp)] at hv
    obtain ⟨⟨k1, k2⟩, k3, k4⟩ := hv
    have v2 := v2 (by simp [toB])
    simp only at k1 k2 k3 k4 v1 v2
    unfold vDo sigC at hvw
    rw [if_neg (by simp), if_neg (by simp), if_neg (by simp), if_neg (by simp), if_pos rfl] at hvw
    simp only at hvw
    have hp1 : (M.vw.act (sLink q p)).k p = M.vw.k q := act_k (by unfold sLink; rw [if_pos rfl])
    have hd : doE (doM M ⟨4, q, p, 0, 0, hq, hp⟩ sd) ⟨5, p, ByteArray.empty, 0, 0, hp, by decide⟩ sd = 0 := by
      refine fin _ rfl (.inr (.inl rfl)) v2 (fun e => absurd e (by simp)) ?_
      unfold vOp
      rw [if_neg (by simp), if_neg (by simp), if_pos rfl, hvw]
      refine ⟨k3.act fun r hr => ?_, by simp only; rw [hp1]; exact k2⟩
      unfold sLink
      rw [if_neg]
      intro e; rw [e, k4] at hr; cases hr
    refine ⟨k4, (fun e => by rw [hvw, hp1] at e; rw [e] at k2; cases k2), hd, ?_⟩
    rw [vw_do hN.inv hd, hvw]
    unfold vDo sigC
    rw [if_neg (by simp), if_neg (by simp), if_pos (.inr rfl)]
    exact back_del k4 fun r hr => by unfold sLink; rw [if_neg hr]
  · obtain ⟨f1, _, hv⟩ := h'.resolve_left (by simp)
    obtain ⟨_, v1, v2, _⟩ := first0 f1
    unfold vOp at hv
    rw [if_neg (by simp), if_neg (by simp), if_neg (by simp), if_neg (by simp)] at hv
    obtain ⟨⟨k1, k2⟩, k3, k4⟩ := hv
    have v2 := v2 (by simp [toB])
    simp only at k1 k2 k3 k4 v1 v2
    unfold vDo sigC at hvw
    rw [if_neg (by simp), if_neg (by simp), if_neg (by simp), if_pos rfl] at hvw
    simp only at hvw
    have hqn : M.vw.k q ≠ none := fun e => by rw [e] at k2; cases k2
    have hne : ¬ p = q := fun e => hqn (by rw [← e]; exact k4)
    have hp1 : (M.vw.act (sMove q p)).k p = M.vw.k q := act_k (by unfold sMove; rw [if_neg hne, if_pos rfl])
    have hold : ∀ r, isD (M.vw.k r) = true → sMove q p r = .old r := fun r hr => by
      unfold sMove
      rw [if_neg, if_neg]
      · intro e; rw [e, k4] at hr; cases hr
      · intro e
        rw [e] at hr
        cases hz : M.vw.k q with
        | none => exact hqn hz
        | some z => rw [hz] at hr k2; cases z <;> simp [isD, isF] at hr k2
    have hd : doE (doM M ⟨3, q, p, 0, 0, hq, hp⟩ sd) ⟨3, p, q, 0, 0, hp, hq⟩ sd = 0 := by
      refine fin _ rfl (.inr (.inr rfl)) v2 (fun _ => v1) ?_
      unfold vOp
      rw [if_neg (by simp), if_neg (by simp), if_neg (by simp), if_neg (by simp), hvw]
      exact ⟨⟨k3.act hold, by simp only; rw [hp1]; exact k2⟩, k1.act hold, act_gone (by unfold sMove; rw [if_pos rfl])⟩
    refine ⟨k4, by rw [hvw, hp1]; exact hqn, hd, ?_⟩
    rw [vw_do hN.inv hd, hvw]
    unfold vDo sigC
    rw [if_neg (by simp), if_neg (by simp), if_neg (by simp), if_pos rfl]
    exact back_move k4 hqn
  · obtain ⟨f1, _, hv⟩ := h'.resolve_left (by simp)
    obtain ⟨_, v1, v2, _⟩ := first0 f1
    unfold vOp at hv
    rw [if_pos (.inr rfl)] at hv
    obtain ⟨k1, k2⟩ := hv
    simp only at k1 k2 v1
    unfold vDo sigC at hvw
    rw [if_neg (by simp), if_neg (by simp), if_neg (by simp), if_neg (by simp), if_neg (by simp), if_pos rfl] at hvw
    simp only at hvw
    obtain ⟨kd, hkd⟩ : ∃ kd, Kd.file mode (refData ⟨6, p, ByteArray.empty, mode, 0, hp, by decide⟩ sd) = kd := ⟨_, rfl⟩
    have hkf : isF (some kd) = true := by rw [← hkd]; rfl
    rw [hkd] at hvw
    have hp1 : (M.vw.act (sNew p kd true)).k p = some kd := act_fresh (f := true) (by unfold sNew; rw [if_pos rfl])
    have hd : doE (doM M ⟨6, p, ByteArray.empty, mode, 0, hp, by decide⟩ sd) ⟨5, p, ByteArray.empty, 0, 0, hp, by decide⟩ sd = 0 := by
      refine fin _ rfl (.inr (.inl rfl)) v1 (fun e => absurd e (by simp)) ?_
      unfold vOp
      rw [if_neg (by simp), if_neg (by simp), if_pos rfl, hvw]
      refine ⟨k1.act fun r hr => ?_, by simp only; rw [hp1]; exact hkf⟩
      unfold sNew
      rw [if_neg]
      intro e; rw [e, k2] at hr; cases hr
    refine ⟨k2, by rw [hvw, hp1]; simp, hd, ?_⟩
    rw [vw_do hN.inv hd, hvw]
    unfold vDo sigC
    rw [if_neg (by simp), if_neg (by simp), if_pos (.inr rfl)]
    exact back_del k2 fun r hr => by unfold sNew; rw [if_neg hr]
  · obtain ⟨f1, _, hv⟩ := h'.resolve_left (by simp)
    obtain ⟨_, v1, v2, _⟩ := first0 f1
    unfold vOp at hv
    rw [if_neg (by simp), if_neg (by simp), if_neg (by simp), if_neg (by simp)] at hv
    obtain ⟨⟨k1, k2⟩, k3, k4⟩ := hv
    have v2 := v2 (by simp [toB])
    simp only at k1 k2 k3 k4 v1 v2
    unfold vDo sigC at hvw
    rw [if_neg (by simp), if_neg (by simp), if_neg (by simp), if_neg (by simp), if_neg (by simp), if_neg (by simp), if_pos rfl] at hvw
    simp only at hvw
    obtain ⟨kd, hkd⟩ : ∃ kd, Kd.file mode (kdData (M.vw.k q)) = kd := ⟨_, rfl⟩
    have hkf : isF (some kd) = true := by rw [← hkd]; rfl
    rw [hkd] at hvw
    have hp1 : (M.vw.act (sNew p kd true)).k p = some kd := act_fresh (f := true) (by unfold sNew; rw [if_pos rfl])
    have hd : doE (doM M ⟨7, q, p, mode, 0, hq, hp⟩ sd) ⟨5, p, ByteArray.empty, 0, 0, hp, by decide⟩ sd = 0 := by
      refine fin _ rfl (.inr (.inl rfl)) v2 (fun e => absurd e (by simp)) ?_
      unfold vOp
      rw [if_neg (by simp), if_neg (by simp), if_pos rfl, hvw]
      refine ⟨k3.act fun r hr => ?_, by simp only; rw [hp1]; exact hkf⟩
      unfold sNew
      rw [if_neg]
      intro e; rw [e, k4] at hr; cases hr
    refine ⟨k4, by rw [hvw, hp1]; simp, hd, ?_⟩
    rw [vw_do hN.inv hd, hvw]
    unfold vDo sigC
    rw [if_neg (by simp), if_neg (by simp), if_pos (.inr rfl)]
    exact back_del k4 fun r hr => by unfold sNew; rw [if_neg hr]
/-- The law of ModelUndo, of one pair. -/
theorem undo_law {t : TV} {ds : List ByteArray} {w : World} (hT : TreeD w t ds) {p q : ByteArray} {mode : Int} {hp : p.size ≤ 9223372036854775807} {hq : q.size ≤ 9223372036854775807} {sd : List ByteArray} {x : Cmd × Cmd} (hx : x ∈ undoP p q mode hp hq) (h : DoE t ds x.1 sd = 0) {u : TV} {es : List ByteArray} (hu : TellsM (doW t ds x.1 sd) u es) {w' : World} (hU : TreeD w' u es) :
    DoE u es x.2 sd = 0 ∧ (∀ v fs, TellsM (doW u es x.2 sd) v fs → exactB v t fs ds = true) ∧ exactB u t es ds = false := by
  obtain ⟨hl, h0⟩ := doE_loose h
  have hM := open_ok hT hl
  have hW : doW t ds x.1 sd = doM (openM t ds) x.1 sd := by unfold doW; rw [if_pos h]
  rw [hW] at hu
  obtain ⟨k1, k2, k3, k4⟩ := undo_do hM hx h0
  have hN := hM.do x.1 sd
  obtain ⟨hlu, hV⟩ := told_opened hN hu
  have hMu := open_ok hU hlu
  have hE : DoE u es x.2 sd = 0 := by
    unfold DoE
    rw [if_pos hlu, hV.doE hMu.inv hN.inv]
    exact k3
  refine ⟨hE, fun v fs hv => ?_, told_other hN k1 k2 hu⟩
  have hW2 : doW u es x.2 sd = doM (openM u es) x.2 sd := by unfold doW; rw [if_pos hE]
  rw [hW2] at hv
  have hV2 := hV.do hMu hN x.2 sd
  refine told_back (hMu.do x.2 sd) hT hl (hV2.trans ?_) hv
  exact SameV.of_vw k4 (hN.do x.2 sd).inv.apart hM.inv.apart

/-- A path that an instruction names. -/
def Cmd.at (c : Cmd) (r : ByteArray) : Prop := r = c.path ∨ r = c.dst
instance (c : Cmd) (r : ByteArray) : Decidable (c.at r) := inferInstanceAs (Decidable (r = c.path ∨ r = c.dst))
/-- What is made of paths that are not named comes from themselves; what comes from another path comes from a named one. -/
structure Near (σ : ByteArray → Src) (X : ByteArray → Prop) : Prop where
  away : ∀ r, ¬ X r → σ r = .old r
  from_ : ∀ r q, σ r = .old q → q = r ∨ X q
theorem sig_near (c : Cmd) (sd : List ByteArray) (D : ByteArray) : Near (sigC c sd D) c.at := by
  have nw : ∀ p k f, c.at p → Near (sNew p k f) c.at := fun p k f hp => by
    refine ⟨fun r hr => ?_, fun r q h => ?_⟩
    · unfold sNew; rw [if_neg]; exact fun e => hr (e ▸ hp)
    · unfold sNew at h
      split at h
      · cases h
      · injection h with h; exact .inl h.symm
  have ol : Near Src.old c.at := ⟨fun _ _ => rfl, fun r q h => by injection h with h; exact .inl h.symm⟩
  unfold sigC
  split
  · exact nw _ _ _ (.inl rfl)
  · split
    · refine ⟨fun r hr => ?_, fun r q h => ?_⟩
      · unfold sDel; rw [if_neg]; exact fun e => hr (.inl e)
      · unfold sDel at h
        split at h
        · cases h
        · injection h with h; exact .inl h.symm
    · split
      · refine ⟨fun r hr => ?_, fun r q h => ?_⟩
        · unfold sMove; rw [if_neg (fun e => hr (.inl e)), if_neg (fun e => hr (.inr e))]
        · unfold sMove at h
          split at h
          · cases h
          · split at h
            · injection h with h; exact .inr (.inl h.symm)
            · injection h with h; exact .inl h.symm
      · split
        · refine ⟨fun r hr => ?_, fun r q h => ?_⟩
          · unfold sLink; rw [if_neg (fun e => hr (.inr e))]
          · unfold sLink at h
            split at h
            · injection h with h; exact .inr (.inl h.symm)
            · injection h with h; exact .inl h.symm
        · split
          · exact nw _ _ _ (.inl rfl)
          · split
            · exact nw _ _ _ (.inr rfl)
            · exact ol
theorem sig_data {c : Cmd} (h : c.op ≠ 7) (sd : List ByteArray) (D D' : ByteArray) : sigC c sd D = sigC c sd D' := by
  unfold sigC
  simp only [if_neg h]
/-- Far apart. -/
def Apart2 (X Y : ByteArray → Prop) : Prop := ∀ r, X r → ¬ Y r
def src2 (Y : ByteArray → Prop) [DecidablePred Y] (σ τ : ByteArray → Src) (q : ByteArray) : Src := if Y q then τ q else σ q
theorem act_k_eq (V : Vw) (σ : ByteArray → Src) (q : ByteArray) : (V.act σ).k q = match σ q with
    | .old r => V.k r
    | .gone => none
    | .fresh k _ => some k := rfl
theorem act_s_eq (V : Vw) (σ : ByteArray → Src) (a b : ByteArray) : (V.act σ).s a b = match σ a, σ b with
    | .old r, .old t => V.s r t
    | .fresh _ f, .fresh _ _ => f && decide (a = b)
    | _, _ => false := rfl
theorem act_act (V : Vw) {σ τ : ByteArray → Src} {X Y : ByteArray → Prop} [DecidablePred Y] (hσ : Near σ X) (hτ : Near τ Y) (hXY : Apart2 X Y) : (V.act σ).act τ = V.act (src2 Y σ τ) := by
  have hback : ∀ a r, Y a → τ a = .old r → σ r = .old r := fun a r ha h => by
    refine hσ.away r fun hx => ?_
    rcases hτ.from_ a r h with e | hy
    · exact hXY r hx (e ▸ ha)
    · exact hXY r hx hy
  refine Vw.ext2 (fun q => ?_) (fun a b => ?_)
  · rw [act_k_eq, act_k_eq]
    unfold src2
    by_cases hq : Y q
    · rw [if_pos hq]
      cases h : τ q with
      | old r =>
        simp only
        rw [act_k_eq, hback q r hq h]
      | gone => rfl
      | fresh k f => rfl
    · rw [if_neg hq, hτ.away q hq]
      rfl
  · rw [act_s_eq, act_s_eq]
    unfold src2
    by_cases ha : Y a <;> by_cases hb : Y b
    · rw [if_pos ha, if_pos hb]
      cases h : τ a with
      | old r =>
        cases h2 : τ b with
        | old r' => simp only; rw [act_s_eq, hback a r ha h, hback b r' hb h2]
        | gone => rfl
        | fresh k f => rfl
      | gone => cases h2 : τ b <;> rfl
      | fresh k f => cases h2 : τ b <;> rfl
    · rw [if_pos ha, if_neg hb, hτ.away b hb]
      have hne : ¬ a = b := fun e => hb (e ▸ ha)
      cases h : τ a with
      | old r => simp only; rw [act_s_eq, hback a r ha h]; cases σ b <;> rfl
      | gone => simp only
      | fresh k f => simp only; cases σ b <;> simp [hne]
    · rw [if_neg ha, if_pos hb, hτ.away a ha]
      have hne : ¬ a = b := fun e => ha (e ▸ hb)
      cases h : τ b with
      | old r => simp only; rw [act_s_eq, hback b r hb h]; cases σ a <;> rfl
      | gone => simp only; cases σ a <;> rfl
      | fresh k f => simp only; cases σ a <;> simp [hne]
    · rw [if_neg ha, if_neg hb, hτ.away a ha, hτ.away b hb]
      rfl
theorem act_comm (V : Vw) {σ τ : ByteArray → Src} {X Y : ByteArray → Prop} [DecidablePred X] [DecidablePred Y] (hσ : Near σ X) (hτ : Near τ Y) (hXY : Apart2 X Y) : (V.act σ).act τ = (V.act τ).act σ := by
  rw [act_act V hσ hτ hXY, act_act V hτ hσ (fun r hy hx => hXY r hx hy)]
  congr 1
  funext q
  unfold src2
  by_cases hx : X q <;> by_cases hy : Y q
  · exact absurd hy (hXY q hx)
  · rw [if_neg hy, if_pos hx]
  · rw [if_pos hy, if_neg hx]
  · rw [if_neg hy, if_neg hx, hσ.away q hx, hτ.away q hy]
theorem chm_comm (V : Vw) {τ : ByteArray → Src} {Y : ByteArray → Prop} [DecidablePred Y] (hτ : Near τ Y) {p : ByteArray} (hp : ¬ Y p) (m : Int) : (V.chm p m).act τ = (V.act τ).chm p m := by
  refine Vw.ext2 (fun q => ?_) (fun a b => rfl)
  show (match τ q with
    | .old r => (if r = p ∨ V.s p r = true then (V.k r).map (kdMode m) else V.k r)
    | .gone => none
    | .fresh k _ => some k) = if q = p ∨ (V.act τ).s p q = true then ((V.act τ).k q).map (kdMode m) else (V.act τ).k q
  rw [act_k_eq, act_s_eq, hτ.away p hp]
  have hne : ∀ {x}, τ q = x → (∀ r, x ≠ .old r) → ¬ q = p := fun {x} h hx e => by
    rw [e, hτ.away p hp] at h
    exact hx p h.symm
  cases h : τ q with
  | old r =>
    simp only
    have e : r = p ↔ q = p := by
      constructor
      · intro e
        rcases hτ.from_ q r h with e2 | hy
        · exact e2.symm.trans e
        · exact absurd (e ▸ hy) hp
      · intro e
        rw [e, hτ.away p hp] at h
        injection h with h; exact h.symm
    simp only [e]
  | gone => simp
  | fresh k f =>
    simp only
    rw [if_neg]
    rintro (h1 | h1)
    · exact hne h (fun r => by simp) h1
    · cases h1
/-- What two instructions far apart make of a look, either way. -/
theorem vDo_comm (V : Vw) {x y : Cmd} (sd : List ByteArray) (hX : Apart2 x.at y.at) (h7 : x.op ≠ 7 ∧ y.op ≠ 7) (h8 : ¬ (x.op = 8 ∧ y.op = 8)) : vDo (vDo V x sd) y sd = vDo (vDo V y sd) x sd := by
  have hx : ∀ D, sigC x sd D = sigC x sd ByteArray.empty := fun D => sig_data h7.1 sd D _
  have hy : ∀ D, sigC y sd D = sigC y sd ByteArray.empty := fun D => sig_data h7.2 sd D _
  unfold vDo
  simp only [hx, hy]
  by_cases ax : x.op = 8 <;> by_cases ay : y.op = 8
  · exact absurd ⟨ax, ay⟩ h8
  · rw [if_pos ax, if_neg ay, if_neg ay, if_pos ax]
    exact chm_comm V (sig_near y sd _) (hX _ (.inl rfl)) _
  · rw [if_neg ax, if_pos ay, if_pos ay, if_neg ax]
    exact (chm_comm V (sig_near x sd _) (fun h => hX _ h (.inl rfl)) _).symm
  · rw [if_neg ax, if_neg ay, if_neg ay, if_neg ax]
    exact act_comm V (sig_near x sd _) (sig_near y sd _) hX

/-- What is at a path that is not named: a directory stays one, a file stays one, with its bytes; only a chmod turns a mode. -/
theorem vDo_away (V : Vw) (c : Cmd) (sd : List ByteArray) {r : ByteArray} (hr : ¬ c.at r) : (c.op ≠ 8 → (vDo V c sd).k r = V.k r) ∧ ((vDo V c sd).k r = V.k r ∨ (V.s c.path r = true ∧ (vDo V c sd).k r = (V.k r).map (kdMode c.mode))) := by
  unfold vDo
  by_cases h8 : c.op = 8
  · rw [if_pos h8]
    refine ⟨fun h => absurd h8 h, ?_⟩
    show (if r = c.path ∨ V.s c.path r = true then (V.k r).map (kdMode c.mode) else V.k r) = _ ∨ _ ∧ (if r = c.path ∨ V.s c.path r = true then (V.k r).map (kdMode c.mode) else V.k r) = _
    by_cases hs : V.s c.path r = true
    · exact .inr ⟨hs, by rw [if_pos (.inr hs)]⟩
    · exact .inl (by rw [if_neg (fun h => h.elim (fun e => hr (.inl e)) hs)])
  · rw [if_neg h8]
    have : (V.act (sigC c sd (kdData (V.k c.path)))).k r = V.k r := act_k_of V _ ((sig_near c sd _).away r hr)
    exact ⟨fun _ => this, .inl this⟩
where act_k_of (V : Vw) (σ : ByteArray → Src) {r q : ByteArray} (h : σ r = .old q) : (V.act σ).k r = V.k q := by rw [act_k_eq, h]
theorem vDo_away_s (V : Vw) (c : Cmd) (sd : List ByteArray) {r q : ByteArray} (hr : ¬ c.at r) (hq : ¬ c.at q) : (vDo V c sd).s r q = V.s r q := by
  unfold vDo
  split
  · rfl
  · rw [act_s_eq, (sig_near c sd _).away r hr, (sig_near c sd _).away q hq]
theorem isD_map (k : Option Kd) (m : Int) : isD (k.map (kdMode m)) = isD k ∧ isF (k.map (kdMode m)) = isF k ∧ (k.map (kdMode m) = none ↔ k = none) := by
  cases k with
  | none => exact ⟨rfl, rfl, Iff.rfl⟩
  | some z => cases z <;> exact ⟨rfl, rfl, by simp⟩
theorem away_kind (V : Vw) (c : Cmd) (sd : List ByteArray) {r : ByteArray} (hr : ¬ c.at r) : isD ((vDo V c sd).k r) = isD (V.k r) ∧ isF ((vDo V c sd).k r) = isF (V.k r) ∧ ((vDo V c sd).k r = none ↔ V.k r = none) := by
  rcases (vDo_away V c sd hr).2 with h | ⟨_, h⟩
  · rw [h]; exact ⟨rfl, rfl, Iff.rfl⟩
  · rw [h]; exact isD_map _ _

/-- Paths that begin unlike. -/
def headB (s : ByteArray) : Option UInt8 := s.data.toList.head?
theorem head_extract {s : ByteArray} {i : Nat} (h : 0 < i) : headB (s.extract 0 i) = headB s := by
  unfold headB
  rw [ByteArray.data_extract, Array.toList_extract, List.extract_eq_take_drop, List.drop_zero, Nat.sub_zero]
  cases hl : s.data.toList with
  | nil => simp
  | cons a t =>
    cases i with
    | zero => omega
    | succ n => rfl
theorem valid_head {s : ByteArray} (h : validL s.data.toList = true) : ¬ s.data.toList[0]? = some 47 := fun e => by
  cases hl : s.data.toList with
  | nil => rw [hl] at e; cases e
  | cons a t =>
    rw [hl] at e h
    simp only [List.getElem?_cons_zero, Option.some.injEq] at e
    subst e
    unfold validL at h
    rw [vrun_slash_bad rfl rfl] at h
    cases h
theorem prefix_head {s : ByteArray} (h : validL s.data.toList = true) {i : Nat} (hi : s.data.toList[i]? = some 47) : headB (s.extract 0 i) = headB s := by
  cases i with
  | zero => exact absurd hi (valid_head h)
  | succ n => exact head_extract (Nat.succ_pos n)
theorem parent_head {s p : ByteArray} (hp : p.data.toList ≠ []) (h : parentB s = p) : headB s = headB p := by
  unfold parentB at h
  split at h
  · subst h
    cases hn : (lastIx s 47).toNat with
    | zero =>
      rw [hn] at hp
      exact absurd (by simp) hp
    | succ n => exact (head_extract (Nat.succ_pos n)).symm
  · subst h
    exact absurd rfl hp
theorem okUp_away {V : Vw} {c : Cmd} {sd : List ByteArray} {p : ByteArray} (hv : validL p.data.toList = true) (hf : ∀ r, c.at r → headB r ≠ headB p) : OkUp (vDo V c sd) p ↔ OkUp V p := by
  have key : ∀ i, p.data.toList[i]? = some 47 → isD ((vDo V c sd).k (p.extract 0 i)) = isD (V.k (p.extract 0 i)) := fun i hi =>
    (away_kind V c sd fun h => hf _ h (prefix_head hv hi)).1
  constructor
  · intro h i h1 h2; rw [← key i h2]; exact h i h1 h2
  · intro h i h1 h2; rw [key i h2]; exact h i h1 h2
theorem vOp_away {V : Vw} {x y : Cmd} {sd : List ByteArray} (hf : ∀ a b, x.at a → y.at b → headB a ≠ headB b) (v1 : validL y.path.data.toList = true) (v2 : toB y.op = true → validL y.dst.data.toList = true) (h9 : isOp y.op = true ∧ y.op ≠ 9) : vOp (vDo V x sd) y ↔ vOp V y := by
  have up := okUp_away (V := V) (c := x) (sd := sd) v1 (fun r hr => hf r _ hr (.inl rfl))
  have kp := away_kind V x sd (r := y.path) (fun h => hf _ _ h (.inl rfl) rfl)
  unfold vOp
  split
  · rw [up, kp.2.2]
  · split
    · rw [up, kp.1]
      refine and_congr_right fun _ => and_congr_right fun _ => forall_congr' fun q => ?_
      by_cases hq : parentB q = y.path
      · have hh := parent_head (valid_ne v1) hq
        have := (away_kind V x sd (r := q) (fun h => hf _ _ h (.inl rfl) hh)).2.2
        rw [Ne, Ne, this]
      · simp [hq]
    · split
      · rw [up, kp.2.1]
      · split
        · rw [up, Ne, Ne, kp.2.2]
        · rename_i h1 h2 h3 h4
          have hop : 1 ≤ y.op ∧ y.op ≤ 9 := by simpa [isOp] using h9.1
          have ht : toB y.op = true := by simp [toB]; omega
          have ud := okUp_away (V := V) (c := x) (sd := sd) (v2 ht) (fun r hr => hf r _ hr (.inr rfl))
          have kd := away_kind V x sd (r := y.dst) (fun h => hf _ _ h (.inr rfl) rfl)
          rw [up, kp.2.1, ud, kd.2.2]
theorem do_len (M : PW) (c : Cmd) (sd : List ByteArray) : (doM M c sd).nodes.length ≤ M.nodes.length + 1 := by
  have tk : ∀ (N : PW) p, (N.takeAt p).nodes.length ≤ N.nodes.length := fun N p => by
    unfold PW.takeAt
    split
    · exact List.length_filter_le _ _
    · exact Nat.le_refl _
  unfold doM
  split
  · unfold opM
    split
    · simp [PW.put]
    · split
      · have := tk M c.path; omega
      · split
        · have := tk (M.put ⟨c.dst, lookF M.nodes c.path, 0, c.hd⟩) c.path
          simp only [PW.put, List.length_append, List.length_cons, List.length_nil] at this ⊢
          exact this
        · split
          · simp [PW.put]
          · split
            · simp [PW.made]
            · split
              · simp [PW.made]
              · rw [(chmod_len M c.path c.mode).1]; omega
  · omega
theorem do_indep {M : PW} (hM : WOkP M) (hl : M.nodes.length ≤ 250) {x y : Cmd} {sd : List ByteArray} (hf : ∀ a b, x.at a → y.at b → headB a ≠ headB b) (hx : doE M x sd = 0) : doE (doM M x sd) y sd = 0 ↔ doE M y sd = 0 := by
  have hvw := vw_do hM.inv hx
  have hlen := do_len M x sd
  rw [do0_iff, do0_iff, hvw]
  refine and_congr_right fun hop => ?_
  by_cases h9 : y.op = 9
  · simp [h9]
  · simp only [h9, false_or]
    refine and_congr_right fun h1 => ?_
    obtain ⟨_, v1, v2, _⟩ := first0 h1
    rw [vOp_away hf v1 v2 ⟨hop, h9⟩]
    refine and_congr_left fun _ => ?_
    constructor <;> intro _ _ <;> omega
def runE (M : PW) (x y : Cmd) (sd : List ByteArray) : Prop := doE M x sd = 0 ∧ doE (doM M x sd) y sd = 0
theorem runE_swap {M : PW} (hM : WOkP M) (hl : M.nodes.length ≤ 250) {x y : Cmd} {sd : List ByteArray} (hf : ∀ a b, x.at a → y.at b → headB a ≠ headB b) : runE M x y sd ↔ runE M y x sd := by
  have hg : ∀ a b, y.at a → x.at b → headB a ≠ headB b := fun a b ha hb e => hf b a hb ha e.symm
  constructor
  · rintro ⟨h1, h2⟩
    have h3 := (do_indep hM hl hf h1).1 h2
    exact ⟨h3, (do_indep hM hl hg h3).2 h1⟩
  · rintro ⟨h1, h2⟩
    have h3 := (do_indep hM hl hg h1).1 h2
    exact ⟨h3, (do_indep hM hl hf h3).2 h1⟩
theorem run2 (sd : List ByteArray) (M : PW) (x y : Cmd) : ((runG sd [x, y] M 0).2.2 = 0 ↔ runE M x y sd) ∧ (runE M x y sd → (runG sd [x, y] M 0).1 = doM (doM M x sd) y sd) := by
  unfold runE
  rw [runG]
  by_cases h1 : doE M x sd = 0
  · rw [if_pos h1, runG]
    by_cases h2 : doE (doM M x sd) y sd = 0
    · rw [if_pos h2]
      exact ⟨⟨fun _ => ⟨h1, h2⟩, fun _ => rfl⟩, fun _ => rfl⟩
    · rw [if_neg h2]
      exact ⟨⟨fun h => absurd h h2, fun h => absurd h.2 h2⟩, fun h => absurd h.2 h2⟩
  · rw [if_neg h1]
    exact ⟨⟨fun h => absurd h h1, fun h => absurd h.1 h1⟩, fun h => absurd h.1 h1⟩
/-- The law of ModelSwap. -/
theorem swap_law {t : TV} {ds : List ByteArray} {w : World} (hT : TreeD w t ds) (hn : t.nn ≤ 250) {x y : Cmd} {sd : List ByteArray} (hf : ∀ a b, x.at a → y.at b → headB a ≠ headB b) :
    ((runR t ds [x, y] sd).2.2 = 0 ↔ (runR t ds [y, x] sd).2.2 = 0) ∧ ((runR t ds [x, y] sd).2.2 = 0 → x.op ≠ 7 ∧ y.op ≠ 7 → ¬ (x.op = 8 ∧ y.op = 8) → SameV (runR t ds [x, y] sd).1 (runR t ds [y, x] sd).1) := by
  by_cases hl : looseE t = 0
  · have e : ∀ cs, runR t ds cs sd = runG sd cs (openM t ds) 0 := fun cs => by unfold runR; rw [if_pos hl]
    have hM := open_ok hT hl
    have hlen : (openM t ds).nodes.length ≤ 250 := by show t.nodes.length ≤ 250; rw [hT.tree.nl]; exact hn
    rw [e, e]
    obtain ⟨a1, a2⟩ := run2 sd (openM t ds) x y
    obtain ⟨b1, b2⟩ := run2 sd (openM t ds) y x
    have hs := runE_swap (sd := sd) hM hlen hf
    refine ⟨a1.trans (hs.trans b1.symm), fun h h7 h8 => ?_⟩
    have h1 := a1.1 h
    have h2 := hs.1 h1
    rw [a2 h1, b2 h2]
    have o1 := (hM.do x sd).do y sd
    have o2 := (hM.do y sd).do x sd
    refine SameV.of_vw ?_ o1.inv.apart o2.inv.apart
    rw [vw_do (hM.do x sd).inv h1.2, vw_do hM.inv h1.1, vw_do (hM.do y sd).inv h2.2, vw_do hM.inv h2.1]
    exact vDo_comm _ sd (fun r hx hy => hf r r hx hy rfl) h7 h8
  · have e : ∀ cs, runR t ds cs sd = (openM zeroTV [], 0, looseE t) := fun cs => by unfold runR; rw [if_neg hl]
    rw [e, e]
    exact ⟨Iff.rfl, fun h => absurd h hl⟩
end Go.Proofs.Ytanaccoelifcpaa
