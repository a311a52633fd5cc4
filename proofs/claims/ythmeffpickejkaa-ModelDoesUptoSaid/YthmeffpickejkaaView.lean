/- A world told as a tree: the tree is loose, and looks as the world does. -/
import Derived.Test.YthmeffpickejkaaLaw7
import Derived.Test.YthmeffpickejkaaAll
namespace Go.Proofs.Ythmeffpickejkaa
open Go.RowKit

theorem snoc_ind {α : Type} {P : List α → Prop} (h0 : P []) (h1 : ∀ l x, P l → P (l ++ [x])) (l : List α) : P l := by
  have h : ∀ m : List α, P m.reverse := fun m => by
    induction m with
    | nil => exact h0
    | cons x t ih => rw [List.reverse_cons]; exact h1 _ _ ih
  rw [← List.reverse_reverse l]; exact h _
theorem reN_path (ids : List Int) (x : Node) : (reN ids x).path = x.path := by unfold reN; split <;> rfl
theorem reN_mode (ids : List Int) (x : Node) : (reN ids x).mode = x.mode := by unfold reN; split <;> rfl
theorem reN_dir {ids : List Int} {x : Node} (h : x.file < 0) : reN ids x = x := by rw [reN, if_pos h]
theorem reN_file {ids : List Int} {x : Node} (h : 0 ≤ x.file) : (reN ids x).file = (ids.idxOf x.file : Nat) := by rw [reN, if_neg (by omega)]
theorem numRun_snoc : ∀ (l : List Node) (x : Node) (n : Int), numRun (l ++ [x]) n = (numRun l n).bind fun m => numRun [x] m
  | [], x, n => rfl
  | y :: t, x, n => by
    rw [List.cons_append, numRun, numRun]
    split
    · exact numRun_snoc t x n
    · split
      · rfl
      · exact numRun_snoc t x _
theorem num_re (S : List Node) (hS : ∀ x ∈ S, x.file = -1 ∨ 0 ≤ x.file) : numRun (S.map (reN (idsL S))) 0 = some ((idsL S).length : Int) := by
  revert hS
  induction S using snoc_ind with
  | h0 => intro _; rfl
  | h1 l x ih =>
    intro hS
    have ih' := ih fun y hy => hS y (List.mem_append.2 (.inl hy))
    rw [map_re_snoc, numRun_snoc, ih']
    show numRun [reN (idsL (l ++ [x])) x] ((idsL l).length : Int) = _
    rw [idsL_snoc]
    rcases hS x (by simp) with h | h
    · rw [idStep, if_pos (.inl (by omega)), reN_dir (by omega), numRun, if_pos h]; rfl
    · by_cases hm : x.file ∈ idsL l
      · rw [idStep, if_pos (.inr hm), numRun, reN_file h]
        have hlt := List.idxOf_lt_length_of_mem hm
        rw [if_neg (by omega), if_neg (by omega), if_neg (by omega)]; rfl
      · rw [idStep, if_neg (by rintro (e | e); omega; exact hm e), numRun, reN_file h]
        have hi : (idsL l ++ [x.file]).idxOf x.file = (idsL l).length := by rw [List.idxOf_append, if_neg hm]; simp
        rw [hi, if_neg (by omega), if_neg (by omega), if_pos rfl, numRun, List.length_append]
        simp
theorem idsL_len (S : List Node) : (idsL S).length ≤ S.length := by
  induction S using snoc_ind with
  | h0 => exact Nat.le_refl _
  | h1 l x ih =>
    rw [idsL_snoc, idStep, List.length_append]
    split
    · simp; omega
    · simp [List.length_append]; omega
theorem F_ok {M : PW} (hI : M.Inv) {x : Node} (hx : x ∈ M.nodes) (h0 : 0 ≤ x.file) : okMode (M.F x.file).1 = true ∧ (M.F x.file).2.size ≤ 8192 := by
  have hm : x.file ∈ M.files.map (·.id) := by rcases hI.file hx with h | h; omega; exact h
  obtain ⟨f, hf, e⟩ := List.mem_map.1 hm
  cases hq : fileOf M x.file with
  | none =>
    have := List.find?_eq_none.1 hq f hf
    simp [e] at this
  | some g =>
    have hg := List.mem_of_find?_eq_some hq
    have := hI.fbd g hg
    rw [PW.F, hq]
    exact ⟨this.2.2.1, this.2.2.2⟩
/-- A world told as a tree: the tree is loose. -/
theorem told_loose {M : PW} (hI : M.Inv) (hl : M.nodes.length ≤ 256) {b : Nat} {w : World} {S : List Node} {u : TV} (h : ToldAs M b w S u) : LooseP u := by
  have hm : ∀ x, x ∈ S ↔ x ∈ M.nodes := fun x => h.perm.mem_iff
  have hSl : S.length ≤ 256 := by rw [h.perm.length_eq]; exact hl
  have hk : ∀ x ∈ S, x.file = -1 ∨ 0 ≤ x.file := fun x hx => (hI.kind x ((hm x).1 hx)).imp (·.1) (·.1)
  have hmem : ∀ x ∈ u.nodes, ∃ y ∈ S, x = reN (idsL S) y := fun x hx => by
    rw [h.nodes] at hx
    obtain ⟨y, hy, e⟩ := List.mem_map.1 hx
    exact ⟨y, hy, e.symm⟩
  have hids : ∀ i ∈ idsL S, ∃ y ∈ M.nodes, 0 ≤ y.file ∧ y.file = i := fun i hi => by
    obtain ⟨h0, y, hy, e⟩ := (idsL_mem S i).1 hi
    exact ⟨y, (hm y).1 hy, by omega, e⟩
  refine ⟨⟨by rw [h.nn]; exact hSl, by rw [h.fn]; have := idsL_len S; omega, fun x hx => ?_, ?_, fun x hx => ?_, fun x hx => ?_, fun x hx => ?_, fun f h0 h1 => ?_, fun x hx => ?_⟩, ?_⟩
  · obtain ⟨k, hk⟩ := List.getElem?_of_mem hx
    have hlt := (List.getElem?_eq_some_iff.1 hk).1
    have hlt2 : k < (idsL S).length := by rw [← h.fn, ← h.fl]; exact hlt
    obtain ⟨y, hy, hy0, e⟩ := hids _ (List.getElem_mem hlt2)
    have hr := (h.rows.row k x _ hk (by rw [List.getElem?_map, List.getElem?_eq_getElem hlt2]; rfl)).1
    rw [hr, ← e]
    exact (F_ok hI hy hy0).2
  · rw [h.nodes, Rises, List.pairwise_map]
    exact h.rises.imp fun hlt => by unfold pathL at hlt ⊢; rw [reN_path, reN_path]; exact hlt
  · obtain ⟨y, hy, rfl⟩ := hmem x hx
    have := hI.valid y ((hm y).1 hy)
    unfold pathL at this ⊢
    rw [reN_path]; exact this
  · obtain ⟨y, hy, rfl⟩ := hmem x hx
    rw [reN_path]
    rcases hI.dir y ((hm y).1 hy) with e | ⟨z, hz, e1, e2⟩
    · exact .inl e
    · refine .inr ⟨z, ?_, e1, e2⟩
      rw [h.nodes]
      exact List.mem_map.2 ⟨z, (hm z).2 hz, reN_dir (by omega)⟩
  · obtain ⟨y, hy, rfl⟩ := hmem x hx
    rcases hI.kind y ((hm y).1 hy) with ⟨e1, e2⟩ | ⟨e1, e2, _⟩
    · rw [reN_dir (by omega)]; exact .inl ⟨e1, e2⟩
    · refine .inr ?_
      rw [reN_file e1, reN_mode, h.fn]
      have := List.idxOf_lt_length_of_mem ((idsL_mem S y.file).2 ⟨e1, y, hy, rfl⟩)
      exact ⟨by omega, by omega, e2⟩
  · have hlt : f.toNat < (idsL S).length := by rw [← h.fn]; omega
    obtain ⟨h0', y, hy, e⟩ := (idsL_mem S _).1 (List.getElem_mem hlt)
    refine ⟨reN (idsL S) y, by rw [h.nodes]; exact List.mem_map.2 ⟨y, hy, rfl⟩, ?_⟩
    rw [reN_file (by omega), e, (idsL_nodup S).idxOf_getElem f.toNat hlt]
    omega
  · obtain ⟨k, hk⟩ := List.getElem?_of_mem (List.mem_map.2 ⟨x, hx, rfl⟩ : x.mode ∈ u.files.map (·.mode))
    rw [h.modes, List.getElem?_map] at hk
    cases hi : (idsL S)[k]? with
    | none => rw [hi] at hk; cases hk
    | some i =>
      rw [hi] at hk
      injection hk with hk
      obtain ⟨y, hy, hy0, e⟩ := hids i (List.mem_of_getElem? hi)
      rw [← hk, ← e]
      exact (F_ok hI hy hy0).1
  · rw [h.nodes, h.fn]
    exact num_re S hk
theorem nodeAt_re (ids : List Int) (S : List Node) (p : ByteArray) : nodeAt (S.map (reN ids)) p = (nodeAt S p).map (reN ids) := by
  unfold nodeAt
  rw [List.find?_map]
  congr 1
  congr 1
  funext x
  simp [reN_path]
/-- A told tree has at each path what the world has. -/
theorem told_kind {M : PW} (hI : M.Inv) {b : Nat} {w : World} {S : List Node} {u : TV} (h : ToldAs M b w S u) (p : ByteArray) : kindL u.nodes (treeF u (dsOf M S)) p = kindL M.nodes M.F p := by
  have hA : Apart S := (h.perm.map _).nodup_iff.2 hI.apart
  rw [kindL, kindL, ← nodeAt_perm hA h.perm, h.nodes, nodeAt_re]
  cases hx : nodeAt S p with
  | none => rfl
  | some x =>
    obtain ⟨hxS, _⟩ := nodeAt_some hx
    simp only [Option.map_some, Option.some.injEq]
    by_cases h0 : x.file < 0
    · rw [reN_dir h0]; simp only [kdOf, if_pos h0]
    · have hi : x.file ∈ idsL S := (idsL_mem S _).2 ⟨by omega, x, hxS, rfl⟩
      have hlt := List.idxOf_lt_length_of_mem hi
      have hg : (idsL S)[(idsL S).idxOf x.file]? = some x.file := by rw [List.getElem?_eq_getElem hlt, List.getElem_idxOf]
      have h2 : ¬ (reN (idsL S) x).file < 0 := by rw [reN_file (by omega)]; omega
      simp only [kdOf, if_neg h2, if_neg h0]
      rw [reN_file (by omega)]
      have e1 : (treeF u (dsOf M S) ((idsL S).idxOf x.file : Nat)).1 = (M.F x.file).1 := by
        simp only [treeF, Int.toNat_natCast]
        rw [← List.getElem?_map, h.modes, List.getElem?_map, hg]; rfl
      have e2 : (treeF u (dsOf M S) ((idsL S).idxOf x.file : Nat)).2 = (M.F x.file).2 := by
        simp only [treeF, Int.toNat_natCast, dsOf]
        rw [List.getElem?_map, hg]; rfl
      rw [e1, e2]
/-- A told tree has the world's names of one file. -/
theorem told_sameL {M : PW} {b : Nat} {w : World} {S : List Node} {u : TV} (h : ToldAs M b w S u) (p q : ByteArray) : sameL u.nodes p q ↔ sameL M.nodes p q := by
  have hm : ∀ x, x ∈ S ↔ x ∈ M.nodes := fun x => h.perm.mem_iff
  constructor
  · rintro ⟨x, hx, y, hy, e1, e2, h0, e⟩
    rw [h.nodes] at hx hy
    obtain ⟨x', hx', rfl⟩ := List.mem_map.1 hx
    obtain ⟨y', hy', rfl⟩ := List.mem_map.1 hy
    rw [reN_path] at e1 e2
    have hx0 : 0 ≤ x'.file := by
      by_cases c : x'.file < 0
      · rw [reN_dir c] at h0; omega
      · omega
    have hy0 : 0 ≤ y'.file := by
      by_cases c : y'.file < 0
      · rw [reN_dir c] at e; omega
      · omega
    rw [reN_file hx0, reN_file hy0] at e
    refine ⟨x', (hm x').1 hx', y', (hm y').1 hy', e1, e2, hx0, ?_⟩
    have i1 : x'.file ∈ idsL S := (idsL_mem S _).2 ⟨hx0, x', hx', rfl⟩
    have i2 : y'.file ∈ idsL S := (idsL_mem S _).2 ⟨hy0, y', hy', rfl⟩
    have g1 := List.getElem_idxOf (List.idxOf_lt_length_of_mem i1)
    have g2 := List.getElem_idxOf (List.idxOf_lt_length_of_mem i2)
    have en : (idsL S).idxOf x'.file = (idsL S).idxOf y'.file := by omega
    rw [← g1, ← g2]
    congr 1
  · rintro ⟨x, hx, y, hy, e1, e2, h0, e⟩
    refine ⟨reN (idsL S) x, by rw [h.nodes]; exact List.mem_map.2 ⟨x, (hm x).2 hx, rfl⟩, reN (idsL S) y, by rw [h.nodes]; exact List.mem_map.2 ⟨y, (hm y).2 hy, rfl⟩, by rw [reN_path]; exact e1, by rw [reN_path]; exact e2, by rw [reN_file h0]; omega, by rw [reN_file h0, reN_file (by omega), e]⟩
/-- Two worlds that look alike. -/
structure SameV (M N : PW) : Prop where
  kind : ∀ p, kindL M.nodes M.F p = kindL N.nodes N.F p
  same : ∀ p q, sameL M.nodes p q ↔ sameL N.nodes p q
theorem SameV.refl (M : PW) : SameV M M := ⟨fun _ => rfl, fun _ _ => Iff.rfl⟩
theorem SameV.symm {M N : PW} (h : SameV M N) : SameV N M := ⟨fun p => (h.kind p).symm, fun p q => (h.same p q).symm⟩
theorem SameV.trans {M N O : PW} (h : SameV M N) (k : SameV N O) : SameV M O := ⟨fun p => (h.kind p).trans (k.kind p), fun p q => (h.same p q).trans (k.same p q)⟩
theorem open_F (t : TV) (ds : List ByteArray) {i : Int} (h0 : 0 ≤ i) (h1 : i < t.fn) : (openM t ds).F i = treeF t ds i := by
  have hf : fileOf (openM t ds) i = some ⟨i, (treeF t ds i).1, (treeF t ds i).2⟩ := by
    unfold fileOf
    show (filesP t ds t.fn).find? _ = _
    unfold filesP
    rw [List.find?_map]
    have : (List.range t.fn).find? ((fun f : PF => decide (f.id = i)) ∘ fun (i : Nat) => (⟨(i : Int), (treeF t ds i).1, (treeF t ds i).2⟩ : PF)) = some i.toNat := by
      rw [List.find?_range_eq_some]
      refine ⟨by simp; omega, List.mem_range.2 (by omega), fun j hj => ?_⟩
      simp; omega
    rw [this]
    simp only [Option.map_some]
    rw [Int.toNat_of_nonneg h0]
  rw [PW.F, hf]; rfl
theorem open_kind {t : TV} {ds : List ByteArray} (hG : Good t) (p : ByteArray) : kindL (openM t ds).nodes (openM t ds).F p = kindL t.nodes (treeF t ds) p := by
  show kindL t.nodes (openM t ds).F p = _
  rw [kindL, kindL]
  cases hx : nodeAt t.nodes p with
  | none => rfl
  | some x =>
    simp only [Option.map_some, Option.some.injEq, kdOf]
    rcases hG.kind x (nodeAt_some hx).1 with ⟨e, _⟩ | ⟨e1, e2, _⟩
    · rw [if_pos (by omega), if_pos (by omega)]
    · rw [if_neg (by omega), if_neg (by omega), open_F t ds e1 e2]
/-- A told tree, opened again, looks as the world did. -/
theorem told_open {M : PW} (hI : M.Inv) (hl : M.nodes.length ≤ 256) {b : Nat} {w : World} {S : List Node} {u : TV} (h : ToldAs M b w S u) : SameV (openM u (dsOf M S)) M :=
  ⟨fun p => (open_kind (told_loose hI hl h).good p).trans (told_kind hI h p), fun p q => told_sameL h p q⟩
/-- Two worlds that look alike are told as one tree. -/
theorem told_exact {M N : PW} (hM : M.Inv) (hN : N.Inv) (hl : M.nodes.length ≤ 256) (hn : N.nodes.length ≤ 256) (hV : SameV M N) {b c : Nat} {w x : World} {S T : List Node} {u v : TV} (h : ToldAs M b w S u) (k : ToldAs N c x T v) : exactB u v (dsOf M S) (dsOf N T) = true :=
  exact_of_view (told_loose hM hl h) (told_loose hN hn k) h.fl k.fl (by rw [dsOf, List.length_map, h.fl, h.fn]) (by rw [dsOf, List.length_map, k.fl, k.fn]) (fun p => (told_kind hM h p).trans ((hV.kind p).trans (told_kind hN k p).symm)) (fun p q => (told_sameL h p q).trans ((hV.same p q).trans (told_sameL k p q).symm))

theorem SameV.none {M N : PW} (h : SameV M N) {p : ByteArray} (hx : nodeAt M.nodes p = none) : nodeAt N.nodes p = none := by
  have := h.kind p
  rw [kindL, kindL, hx] at this
  cases hy : nodeAt N.nodes p with
  | none => rfl
  | some y => rw [hy] at this; cases this
theorem SameV.some {M N : PW} (h : SameV M N) {p : ByteArray} {x : Node} (hx : nodeAt M.nodes p = some x) : ∃ y, nodeAt N.nodes p = some y ∧ kdOf M.F x = kdOf N.F y := by
  have := h.kind p
  rw [kindL, kindL, hx] at this
  cases hy : nodeAt N.nodes p with
  | none => rw [hy] at this; cases this
  | some y => rw [hy] at this; exact ⟨y, rfl, Option.some.inj this⟩
theorem kd_sign {F G : Int → Int × ByteArray} {x y : Node} (h : kdOf F x = kdOf G y) : (x.file < 0 ↔ y.file < 0) := by
  unfold kdOf at h
  split at h <;> split at h
  · exact ⟨fun _ => ‹_›, fun _ => ‹_›⟩
  · cases h
  · cases h
  · exact ⟨fun e => absurd e ‹_›, fun e => absurd e ‹_›⟩
theorem SameV.isSome {M N : PW} (h : SameV M N) (p : ByteArray) : (nodeAt M.nodes p).isSome = (nodeAt N.nodes p).isSome := by
  cases hx : nodeAt M.nodes p with
  | none => rw [h.none hx]
  | some x => obtain ⟨y, hy, _⟩ := h.some hx; rw [hy]; rfl
theorem SameV.lookGo {M N : PW} (h : SameV M N) (p : ByteArray) : ∀ (n pos : Nat), lookGo M.nodes p n pos = lookGo N.nodes p n pos
  | 0, _ => rfl
  | n + 1, pos => by
    rw [Go.Proofs.Ythmeffpickejkaa.lookGo, Go.Proofs.Ythmeffpickejkaa.lookGo, h.lookGo p n (pos + 1)]
    cases hx : nodeAt M.nodes (p.extract 0 pos) with
    | none => rw [h.none hx]
    | some x =>
      obtain ⟨y, hy, hk⟩ := h.some hx
      have := kd_sign hk
      rw [hy]
      simp only
      by_cases c : 0 ≤ x.file
      · rw [if_pos c, if_pos (by omega : 0 ≤ y.file)]
      · rw [if_neg c, if_neg (by omega : ¬ 0 ≤ y.file)]
theorem SameV.lookE {M N : PW} (h : SameV M N) (p : ByteArray) : lookE M.nodes p = lookE N.nodes p := h.lookGo p _ _
theorem SameV.lookT {M N : PW} (h : SameV M N) (p : ByteArray) : lookT M.nodes p = lookT N.nodes p := by
  unfold Go.Proofs.Ythmeffpickejkaa.lookT; rw [h.lookE p, h.isSome p]
theorem SameV.lookF {M N : PW} (h : SameV M N) (p : ByteArray) : (lookF M.nodes p < 0 ↔ lookF N.nodes p < 0) := by
  unfold Go.Proofs.Ythmeffpickejkaa.lookF
  rw [h.lookE p]
  split
  · cases hx : nodeAt M.nodes p with
    | none => rw [h.none hx]
    | some x =>
      obtain ⟨y, hy, hk⟩ := h.some hx
      rw [hy]
      exact kd_sign hk
  · exact Iff.rfl
theorem SameV.absE {M N : PW} (h : SameV M N) (p : ByteArray) : absE M.nodes p = absE N.nodes p := by
  unfold Go.Proofs.Ythmeffpickejkaa.absE; rw [h.lookE p, h.lookT p]
theorem SameV.preE {M N : PW} (h : SameV M N) (p : ByteArray) : preE M.nodes p = preE N.nodes p := by
  unfold Go.Proofs.Ythmeffpickejkaa.preE; rw [h.lookE p, h.lookT p]
theorem SameV.filE {M N : PW} (h : SameV M N) (p : ByteArray) : filE M.nodes p = filE N.nodes p := by
  unfold Go.Proofs.Ythmeffpickejkaa.filE; rw [h.preE p]; simp only [h.lookF p]
theorem SameV.bothE {M N : PW} (h : SameV M N) (p q : ByteArray) : bothE M.nodes p q = bothE N.nodes p q := by
  unfold Go.Proofs.Ythmeffpickejkaa.bothE; rw [h.filE p, h.absE q]
theorem mem_paths {l : List Node} {p : ByteArray} : p ∈ l.map (·.path) ↔ (nodeAt l p).isSome = true := by
  cases h : nodeAt l p with
  | none => simp; exact fun x hx => nodeAt_none.1 h x hx
  | some x => have := nodeAt_some h; simp; exact ⟨x, this⟩
theorem perm_mem {α : Type} [DecidableEq α] {l m : List α} (h1 : l.Nodup) (h2 : m.Nodup) (h : ∀ x, x ∈ l ↔ x ∈ m) : l.Perm m := by
  refine List.perm_iff_count.2 fun p => ?_
  rw [h1.count, h2.count]
  simp only [h p]
theorem SameV.paths {M N : PW} (h : SameV M N) (hM : M.Inv) (hN : N.Inv) : (M.nodes.map (·.path)).Perm (N.nodes.map (·.path)) := by
  have h1 : (M.nodes.map (·.path)).Nodup := hM.apart
  have h2 : (N.nodes.map (·.path)).Nodup := hN.apart
  exact perm_mem h1 h2 fun p => by rw [mem_paths, mem_paths, h.isSome p]
theorem SameV.length {M N : PW} (h : SameV M N) (hM : M.Inv) (hN : N.Inv) : M.nodes.length = N.nodes.length := by
  have := (h.paths hM hN).length_eq
  simpa using this
theorem kidsC_paths (l : List Node) (p : ByteArray) : kidsC l p = (l.map (·.path)).countP fun q => decide (parentB q = p) := by
  unfold kidsC; rw [List.countP_map]; rfl
theorem SameV.kids {M N : PW} (h : SameV M N) (hM : M.Inv) (hN : N.Inv) (p : ByteArray) : kidsC M.nodes p = kidsC N.nodes p := by
  rw [kidsC_paths, kidsC_paths, (h.paths hM hN).countP_eq]
theorem SameV.rmE {M N : PW} (h : SameV M N) (hM : M.Inv) (hN : N.Inv) (p : ByteArray) : rmE M p = rmE N p := by
  unfold Go.Proofs.Ythmeffpickejkaa.rmE
  have := h.lookF p
  rw [h.preE p, h.kids hM hN p]
  by_cases c : 0 ≤ Go.Proofs.Ythmeffpickejkaa.lookF M.nodes p
  · rw [if_pos c, if_pos (by omega : 0 ≤ Go.Proofs.Ythmeffpickejkaa.lookF N.nodes p)]
  · rw [if_neg c, if_neg (by omega : ¬ 0 ≤ Go.Proofs.Ythmeffpickejkaa.lookF N.nodes p)]
theorem SameV.opE {M N : PW} (h : SameV M N) (hM : M.Inv) (hN : N.Inv) (c : Cmd) : opE M c = opE N c := by
  unfold Go.Proofs.Ythmeffpickejkaa.opE; rw [h.absE, h.rmE hM hN, h.filE, h.preE, h.bothE]
theorem SameV.fullE {M N : PW} (h : SameV M N) (c : Cmd) : fullE M c = fullE N c := by
  unfold Go.Proofs.Ythmeffpickejkaa.fullE; rw [h.filE, h.absE, h.absE]
theorem SameV.doE {M N : PW} (h : SameV M N) (hM : M.Inv) (hN : N.Inv) (c : Cmd) (sd : List ByteArray) : doE M c sd = doE N c sd := by
  unfold Go.Proofs.Ythmeffpickejkaa.doE; rw [h.fullE, h.opE hM hN, h.length hM hN]

/-- Are two paths names of one file? -/
def sB (l : List Node) (p q : ByteArray) : Bool := match nodeAt l p, nodeAt l q with
  | some x, some y => decide (0 ≤ x.file ∧ x.file = y.file)
  | _, _ => false
theorem sB_iff {l : List Node} (hA : Apart l) {p q : ByteArray} : sB l p q = true ↔ sameL l p q := by
  rw [sameL_iff hA]
  unfold sB
  split
  · rename_i x y hx hy
    rw [decide_eq_true_eq]
    exact ⟨fun h => ⟨x, y, hx, hy, h.1, h.2⟩, fun ⟨a, b, ha, hb, h1, h2⟩ => by rw [hx] at ha; rw [hy] at hb; injection ha with ha; injection hb with hb; subst ha hb; exact ⟨h1, h2⟩⟩
  · rename_i hn
    refine ⟨fun h => (by cases h), fun ⟨a, b, ha, hb, _⟩ => absurd hb (hn a b ha)⟩
/-- A look. -/
structure Vw where
  k : ByteArray → Option Kd
  s : ByteArray → ByteArray → Bool
def PW.vw (M : PW) : Vw := ⟨kindL M.nodes M.F, sB M.nodes⟩
theorem Vw.ext2 {V W : Vw} (h1 : ∀ p, V.k p = W.k p) (h2 : ∀ p q, V.s p q = W.s p q) : V = W := by
  obtain ⟨k, s⟩ := V; obtain ⟨k', s'⟩ := W
  have e1 : k = k' := funext h1
  have e2 : s = s' := funext fun p => funext fun q => h2 p q
  rw [e1, e2]
theorem SameV.vw {M N : PW} (h : SameV M N) (hM : Apart M.nodes) (hN : Apart N.nodes) : M.vw = N.vw :=
  Vw.ext2 h.kind fun p q => Bool.eq_iff_iff.2 ((sB_iff hM).trans ((h.same p q).trans (sB_iff hN).symm))
theorem SameV.of_vw {M N : PW} (h : M.vw = N.vw) (hM : Apart M.nodes) (hN : Apart N.nodes) : SameV M N :=
  ⟨fun p => congrFun (congrArg Vw.k h) p, fun p q => by
    have e : sB M.nodes p q = sB N.nodes p q := congrFun (congrFun (congrArg Vw.s h) p) q
    rw [← sB_iff hM, ← sB_iff hN, e]⟩

def Vw.del (V : Vw) (p : ByteArray) : Vw := ⟨fun q => if q = p then none else V.k q, fun a b => !decide (a = p) && !decide (b = p) && V.s a b⟩
def Vw.new (V : Vw) (p : ByteArray) (k : Kd) (f : Bool) : Vw := ⟨fun q => if q = p then some k else V.k q, fun a b => if a = p ∧ b = p then f else if a = p ∨ b = p then false else V.s a b⟩
def asP (p q a : ByteArray) : ByteArray := if a = q then p else a
def Vw.link (V : Vw) (p q : ByteArray) : Vw := ⟨fun a => V.k (asP p q a), fun a b => V.s (asP p q a) (asP p q b)⟩
def isF (k : Option Kd) : Bool := match k with
  | some (.file _ _) => true
  | _ => false
def kdMode (mode : Int) : Kd → Kd
  | .dir _ => .dir mode
  | .file _ d => .file mode d
def kdData : Option Kd → ByteArray
  | some (.file _ d) => d
  | _ => ByteArray.empty
/-- The mode of what is at p is turned, at p and at every name of the same file. -/
def Vw.chm (V : Vw) (p : ByteArray) (mode : Int) : Vw := ⟨fun q => if q = p ∨ V.s p q = true then (V.k q).map (kdMode mode) else V.k q, V.s⟩

theorem nodeAt_snoc {l : List Node} {x : Node} (h : nodeAt l x.path = none) (q : ByteArray) : nodeAt (l ++ [x]) q = if q = x.path then some x else nodeAt l q := by
  unfold nodeAt at h ⊢
  rw [List.find?_append]
  by_cases e : q = x.path
  · subst e; rw [h, if_pos rfl]; simp
  · rw [if_neg e]
    have : ([x] : List Node).find? (fun y => decide (y.path = q)) = none := by simp; exact fun h => e h.symm
    rw [this]; simp
theorem nodeAt_noPath (l : List Node) (p q : ByteArray) : nodeAt (noPath l p) q = if q = p then none else nodeAt l q := by
  by_cases e : q = p
  · subst e
    rw [if_pos rfl]
    exact nodeAt_none.2 fun x hx => (noPath_mem.1 hx).2
  · rw [if_neg e]
    unfold nodeAt noPath
    rw [List.find?_filter]
    congr 1
    funext x
    by_cases c : x.path = q
    · subst c; simp [e]
    · simp [c]
theorem kdOf_congr {F G : Int → Int × ByteArray} {x : Node} (h : 0 ≤ x.file → F x.file = G x.file) : kdOf F x = kdOf G x := by
  unfold kdOf
  split
  · rfl
  · rw [h (by omega)]
theorem F_files {M N : PW} (h : M.files = N.files) : M.F = N.F := by funext i; unfold PW.F fileOf; rw [h]
theorem vw_put {M : PW} {x : Node} (hn : nodeAt M.nodes x.path = none) (hx : x.file < 0) : (M.put x).vw = M.vw.new x.path (.dir x.mode) false := by
  refine Vw.ext2 (fun q => ?_) (fun a b => ?_)
  · show kindL (M.nodes ++ [x]) M.F q = if q = x.path then _ else kindL M.nodes M.F q
    rw [kindL, kindL, nodeAt_snoc hn]
    split
    · simp [kdOf, hx]
    · rfl
  · show sB (M.nodes ++ [x]) a b = if a = x.path ∧ b = x.path then false else if a = x.path ∨ b = x.path then false else sB M.nodes a b
    unfold sB
    rw [nodeAt_snoc hn, nodeAt_snoc hn]
    by_cases ca : a = x.path <;> by_cases cb : b = x.path
    · rw [if_pos ca, if_pos cb, if_pos ⟨ca, cb⟩]; simp; omega
    · rw [if_pos ca, if_neg cb, if_neg (fun h => cb h.2), if_pos (.inl ca)]
      cases nodeAt M.nodes b with
      | none => rfl
      | some y => simp; omega
    · rw [if_neg ca, if_pos cb, if_neg (fun h => ca h.1), if_pos (.inr cb)]
      cases nodeAt M.nodes a with
      | none => rfl
      | some y => simp; omega
    · rw [if_neg ca, if_neg cb, if_neg (fun h => ca h.1), if_neg (fun h => h.elim ca cb)]
theorem vw_link {M : PW} {x y : Node} (hn : nodeAt M.nodes x.path = none) (hy : nodeAt M.nodes y.path = some y) (hf : 0 ≤ y.file) (e : x.file = y.file) : (M.put x).vw = M.vw.link y.path x.path := by
  have key : ∀ q, nodeAt M.nodes (asP y.path x.path q) = if q = x.path then some y else nodeAt M.nodes q := fun q => by
    unfold asP
    split
    · exact hy
    · rfl
  refine Vw.ext2 (fun q => ?_) (fun a b => ?_)
  · show kindL (M.nodes ++ [x]) M.F q = kindL M.nodes M.F (asP y.path x.path q)
    rw [kindL, kindL, nodeAt_snoc hn, key]
    split
    · simp only [Option.map_some, kdOf, e]
      rw [if_neg (by omega), if_neg (by omega)]
    · rfl
  · show sB (M.nodes ++ [x]) a b = sB M.nodes (asP y.path x.path a) (asP y.path x.path b)
    unfold sB
    rw [nodeAt_snoc hn, nodeAt_snoc hn, key, key]
    by_cases ca : a = x.path <;> by_cases cb : b = x.path
    · rw [if_pos ca, if_pos cb, if_pos ca, if_pos cb]; simp only [e]
    · rw [if_pos ca, if_neg cb, if_pos ca, if_neg cb]
      cases nodeAt M.nodes b with
      | none => rfl
      | some z => simp only [e]
    · rw [if_neg ca, if_pos cb, if_neg ca, if_pos cb]
      cases nodeAt M.nodes a with
      | none => rfl
      | some z => simp only [e]
    · rw [if_neg ca, if_neg cb, if_neg ca, if_neg cb]
theorem vw_take {M : PW} (x : Node) : (M.take x).vw = M.vw.del x.path := by
  refine Vw.ext2 (fun q => ?_) (fun a b => ?_)
  · show kindL (noPath M.nodes x.path) (M.take x).F q = if q = x.path then none else kindL M.nodes M.F q
    rw [kindL, kindL, nodeAt_noPath]
    split
    · rfl
    · rename_i hq
      cases hy : nodeAt M.nodes q with
      | none => rfl
      | some y =>
        obtain ⟨hym, hyp⟩ := nodeAt_some hy
        simp only [Option.map_some, Option.some.injEq]
        refine kdOf_congr fun h0 => ?_
        unfold PW.F fileOf
        simp only [PW.take]
        split
        · rename_i hc
          have hne : y.file ≠ x.file := fun e => by
            have h2 := hc.2
            rw [namesC, List.countP_eq_zero] at h2
            exact h2 y (noPath_mem.2 ⟨hym, by rw [hyp]; exact hq⟩) (by simp [e])
          rw [List.find?_filter]
          congr 2
          congr 1
          funext f
          by_cases c : f.id = y.file
          · simp [c, hne]
          · simp [c]
        · rfl
  · show sB (noPath M.nodes x.path) a b = (!decide (a = x.path) && !decide (b = x.path) && sB M.nodes a b)
    unfold sB
    rw [nodeAt_noPath, nodeAt_noPath]
    by_cases ca : a = x.path
    · rw [if_pos ca]; simp [ca]
    · by_cases cb : b = x.path
      · rw [if_neg ca, if_pos cb]
        simp [cb]
      · rw [if_neg ca, if_neg cb]; simp [ca, cb]
theorem vw_made {M : PW} (hI : M.Inv) {p : ByteArray} {hp : p.size ≤ 9223372036854775807} {mode : Int} {d : ByteArray} (hn : nodeAt M.nodes p = none) : (M.made p hp mode d).vw = M.vw.new p (.file mode d) true := by
  have hfresh : fileOf M M.next = none := by
    unfold fileOf
    refine List.find?_eq_none.2 fun f hf => ?_
    have := (hI.fbd f hf).2.1
    simp; omega
  have hlt : ∀ y ∈ M.nodes, y.file < M.next := fun y hy => by
    rcases hI.kind y hy with k | k
    · have := hI.n0; omega
    · obtain ⟨f, hf, e⟩ := List.mem_map.1 k.2.2
      have := (hI.fbd f hf).2.1; omega
  have hN := nodeAt_snoc (x := ⟨p, M.next, 0, hp⟩) hn
  have h0 := hI.n0
  refine Vw.ext2 (fun q => ?_) (fun a b => ?_)
  · show kindL (M.nodes ++ [⟨p, M.next, 0, hp⟩]) (M.made p hp mode d).F q = if q = p then _ else kindL M.nodes M.F q
    rw [kindL, kindL, hN]
    split
    · have : (M.made p hp mode d).F M.next = (mode, d) := by
        unfold PW.F
        have : fileOf (M.made p hp mode d) M.next = some ⟨M.next, mode, d⟩ := by
          unfold fileOf PW.made
          rw [List.find?_append]
          unfold fileOf at hfresh
          rw [hfresh]; simp
        rw [this]; rfl
      simp only [Option.map_some, kdOf, if_neg (by omega : ¬ M.next < 0), this]
    · cases hy : nodeAt M.nodes q with
      | none => rfl
      | some y =>
        simp only [Option.map_some, Option.some.injEq]
        refine kdOf_congr fun _ => ?_
        have := hlt y (nodeAt_some hy).1
        unfold PW.F fileOf PW.made
        rw [List.find?_append]
        have e : ([(⟨M.next, mode, d⟩ : PF)]).find? (fun f => decide (f.id = y.file)) = none := by simp; omega
        rw [e]; simp
  · show sB (M.nodes ++ [⟨p, M.next, 0, hp⟩]) a b = if a = p ∧ b = p then true else if a = p ∨ b = p then false else sB M.nodes a b
    unfold sB
    rw [hN, hN]
    by_cases ca : a = p <;> by_cases cb : b = p
    · rw [if_pos ca, if_pos cb, if_pos ⟨ca, cb⟩]; simp; omega
    · rw [if_pos ca, if_neg cb, if_neg (fun h => cb h.2), if_pos (.inl ca)]
      cases hy : nodeAt M.nodes b with
      | none => rfl
      | some y => have := hlt y (nodeAt_some hy).1; simp; omega
    · rw [if_neg ca, if_pos cb, if_neg (fun h => ca h.1), if_pos (.inr cb)]
      cases hy : nodeAt M.nodes a with
      | none => rfl
      | some y => have := hlt y (nodeAt_some hy).1; simp; omega
    · rw [if_neg ca, if_neg cb, if_neg (fun h => ca h.1), if_neg (fun h => h.elim ca cb)]
theorem chmodN_at {l : List Node} {p : ByteArray} {mode : Int} (q : ByteArray) : nodeAt (chmodN l p mode) q = (nodeAt l q).map fun x => if x.path = p then ⟨x.path, -1, mode, x.hp⟩ else x := by
  unfold nodeAt chmodN
  rw [List.find?_map]
  congr 2
  funext x
  simp only [Function.comp]
  split <;> rfl
theorem vw_chmod {M : PW} (hI : M.Inv) {x : Node} (hx : nodeAt M.nodes x.path = some x) (mode : Int) : (M.chmod x.path mode).vw = M.vw.chm x.path mode := by
  obtain ⟨hxm, _⟩ := nodeAt_some hx
  have hs : ∀ {q : ByteArray} {y : Node}, nodeAt M.nodes q = some y → (sB M.nodes x.path q = true ↔ 0 ≤ x.file ∧ x.file = y.file) := fun {q y} hy => by
    unfold sB; rw [hx, hy]; simp
  unfold PW.chmod
  rw [hx]
  simp only
  split
  · rename_i hneg
    have hx1 : x.file = -1 := by rcases hI.kind x hxm with k | k <;> omega
    refine Vw.ext2 (fun q => ?_) (fun a b => ?_)
    · show kindL (chmodN M.nodes x.path mode) M.F q = if q = x.path ∨ sB M.nodes x.path q = true then (kindL M.nodes M.F q).map (kdMode mode) else kindL M.nodes M.F q
      rw [kindL, kindL, chmodN_at]
      cases hy : nodeAt M.nodes q with
      | none => simp
      | some y =>
        have hyp := (nodeAt_some hy).2
        simp only [Option.map_some]
        by_cases e : q = x.path
        · subst e
          rw [hx] at hy
          injection hy with hy
          subst hy
          rw [if_pos rfl, if_pos (.inl rfl)]
          simp [kdOf, hneg, kdMode]
        · rw [if_neg (by rw [hyp]; exact e), if_neg]
          rintro (h | h)
          · exact e h
          · have := (hs hy).1 h; omega
    · show sB (chmodN M.nodes x.path mode) a b = sB M.nodes a b
      have hfile : ∀ {q : ByteArray} {y : Node}, nodeAt M.nodes q = some y → (if y.path = x.path then (⟨y.path, -1, mode, y.hp⟩ : Node) else y).file = y.file := fun {q y} hy => by
        split
        · rename_i e
          have : y = x := apart_inj hI.apart (nodeAt_some hy).1 hxm e
          subst this; exact hx1.symm
        · rfl
      unfold sB
      rw [chmodN_at, chmodN_at]
      cases ha : nodeAt M.nodes a with
      | none => rfl
      | some y =>
        cases hb : nodeAt M.nodes b with
        | none => rfl
        | some z => simp only [Option.map_some, hfile ha, hfile hb]
  · rename_i hneg
    refine Vw.ext2 (fun q => ?_) (fun a b => rfl)
    show kindL M.nodes (PW.F { M with files := chmodF M.files x.file mode }) q = if q = x.path ∨ sB M.nodes x.path q = true then (kindL M.nodes M.F q).map (kdMode mode) else kindL M.nodes M.F q
    have hF : ∀ i, PW.F { M with files := chmodF M.files x.file mode } i = if i = x.file ∧ (fileOf M i).isSome = true then (mode, (M.F i).2) else M.F i := fun i => by
      unfold PW.F fileOf chmodF
      simp only
      rw [List.find?_map]
      have : ((fun f : PF => decide (f.id = i)) ∘ fun f => if f.id = x.file then { f with mode := mode } else f) = fun f : PF => decide (f.id = i) := by
        funext f; simp only [Function.comp]; split <;> rfl
      rw [this]
      cases hf : M.files.find? (fun f => decide (f.id = i)) with
      | none => simp
      | some f =>
        have hfi : f.id = i := by simpa using List.find?_some hf
        simp only [Option.map_some, Option.getD_some, Option.isSome_some, and_true, hfi]
        split <;> rfl
    rw [kindL, kindL]
    cases hy : nodeAt M.nodes q with
    | none => simp
    | some y =>
      simp only [Option.map_some]
      by_cases e : x.file = y.file
      · have hsome : (fileOf M y.file).isSome = true := by
          rcases hI.kind x hxm with k | k
          · omega
          · obtain ⟨f, hf, e2⟩ := List.mem_map.1 k.2.2
            unfold fileOf
            rw [List.find?_isSome]
            exact ⟨f, hf, by simp; omega⟩
        rw [if_pos (.inr ((hs hy).2 ⟨by omega, e⟩))]
        simp only [kdOf, if_neg (by omega : ¬ y.file < 0), hF, if_pos (⟨e.symm, hsome⟩ : y.file = x.file ∧ (fileOf M y.file).isSome = true), kdMode]
      · rw [if_neg]
        · refine congrArg some (kdOf_congr fun _ => ?_)
          rw [hF, if_neg (fun h => e h.1.symm)]
        · rintro (h | h)
          · rw [h, hx] at hy
            injection hy with hy
            exact e (by rw [hy])
          · exact e ((hs hy).1 h).2

/-- Where what is at a path comes from. -/
inductive Src where
  | old (r : ByteArray)
  | gone
  | fresh (k : Kd) (f : Bool)
def Vw.act (V : Vw) (σ : ByteArray → Src) : Vw :=
  ⟨fun q => match σ q with
    | .old r => V.k r
    | .gone => none
    | .fresh k _ => some k, fun a b => match σ a, σ b with
    | .old r, .old t => V.s r t
    | .fresh _ f, .fresh _ _ => f && decide (a = b)
    | _, _ => false⟩
def sNew (p : ByteArray) (k : Kd) (f : Bool) (q : ByteArray) : Src := if q = p then .fresh k f else .old q
def sDel (p q : ByteArray) : Src := if q = p then .gone else .old q
def sLink (p d q : ByteArray) : Src := if q = d then .old p else .old q
def sMove (p d q : ByteArray) : Src := if q = p then .gone else if q = d then .old p else .old q
theorem new_act (V : Vw) (p : ByteArray) (k : Kd) (f : Bool) : V.new p k f = V.act (sNew p k f) := by
  refine Vw.ext2 (fun q => ?_) (fun a b => ?_)
  · show (if q = p then some k else V.k q) = _
    simp only [Vw.act, sNew]
    by_cases e : q = p
    · rw [if_pos e, if_pos e]
    · rw [if_neg e, if_neg e]
  · show (if a = p ∧ b = p then f else if a = p ∨ b = p then false else V.s a b) = _
    simp only [Vw.act, sNew]
    by_cases ca : a = p <;> by_cases cb : b = p <;> simp [ca, cb]
theorem del_act (V : Vw) (p : ByteArray) : V.del p = V.act (sDel p) := by
  refine Vw.ext2 (fun q => ?_) (fun a b => ?_)
  · show (if q = p then none else V.k q) = _
    simp only [Vw.act, sDel]
    by_cases e : q = p
    · rw [if_pos e, if_pos e]
    · rw [if_neg e, if_neg e]
  · show (!decide (a = p) && !decide (b = p) && V.s a b) = _
    simp only [Vw.act, sDel]
    by_cases ca : a = p <;> by_cases cb : b = p <;> simp [ca, cb]
theorem link_act (V : Vw) (p d : ByteArray) : V.link p d = V.act (sLink p d) := by
  refine Vw.ext2 (fun q => ?_) (fun a b => ?_)
  · show V.k (asP p d q) = _
    simp only [Vw.act, sLink, asP]
    by_cases e : q = d
    · rw [if_pos e, if_pos e]
    · rw [if_neg e, if_neg e]
  · show V.s (asP p d a) (asP p d b) = _
    simp only [Vw.act, sLink, asP]
    by_cases ca : a = d <;> by_cases cb : b = d <;> simp [ca, cb]
theorem move_act (V : Vw) (p d : ByteArray) : (V.link p d).del p = V.act (sMove p d) := by
  refine Vw.ext2 (fun q => ?_) (fun a b => ?_)
  · show (if q = p then none else V.k (asP p d q)) = _
    simp only [Vw.act, sMove, asP]
    by_cases e : q = p
    · rw [if_pos e, if_pos e]
    · rw [if_neg e, if_neg e]
      by_cases c : q = d
      · rw [if_pos c, if_pos c]
      · rw [if_neg c, if_neg c]
  · show (!decide (a = p) && !decide (b = p) && V.s (asP p d a) (asP p d b)) = _
    simp only [Vw.act, sMove, asP]
    by_cases ca : a = p
    · simp [ca]
    · by_cases cb : b = p
      · rw [if_neg ca]
        by_cases c : a = d <;> simp [cb, c]
      · rw [if_neg ca, if_neg cb, decide_eq_false ca, decide_eq_false cb]
        by_cases da : a = d <;> by_cases db : b = d <;> simp [da, db]

def isD (k : Option Kd) : Bool := match k with
  | some (.dir _) => true
  | _ => false
theorem isD_iff {l : List Node} {F : Int → Int × ByteArray} {p : ByteArray} : isD (kindL l F p) = true ↔ ∃ x, nodeAt l p = some x ∧ x.file < 0 := by
  unfold kindL
  cases h : nodeAt l p with
  | none => simp [isD]
  | some x =>
    simp only [Option.map_some, kdOf]
    split
    · simpa [isD]
    · simp [isD]; omega
theorem isF_iff {l : List Node} {F : Int → Int × ByteArray} {p : ByteArray} : isF (kindL l F p) = true ↔ ∃ x, nodeAt l p = some x ∧ 0 ≤ x.file := by
  unfold kindL
  cases h : nodeAt l p with
  | none => simp [isF]
  | some x =>
    simp only [Option.map_some, kdOf]
    split
    · simp [isF]; omega
    · simp [isF]; omega
theorem kind_none {l : List Node} {F : Int → Int × ByteArray} {p : ByteArray} : kindL l F p = none ↔ nodeAt l p = none := by
  unfold kindL
  cases h : nodeAt l p <;> simp
def OkUp (V : Vw) (p : ByteArray) : Prop := ∀ i, i < p.size → p.data.toList[i]? = some 47 → isD (V.k (p.extract 0 i)) = true
theorem lookGo_of (l : List Node) (p : ByteArray) : ∀ (n pos : Nat), (∀ i, pos ≤ i → i < pos + n → p.data.toList[i]? = some 47 → ∃ x, nodeAt l (p.extract 0 i) = some x ∧ x.file < 0) → lookGo l p n pos = 0
  | 0, _, _ => rfl
  | n + 1, pos, h => by
    have ih := lookGo_of l p n (pos + 1) fun i h1 h2 h3 => h i (by omega) (by omega) h3
    rw [lookGo]
    split
    · rename_i hc
      obtain ⟨x, hx, hf⟩ := h pos (Nat.le_refl _) (by omega) hc
      rw [hx]
      simp only
      rw [if_neg (by omega)]
      exact ih
    · exact ih
theorem look0_iff {M : PW} {p : ByteArray} : lookE M.nodes p = 0 ↔ OkUp M.vw p :=
  ⟨fun h i hi h3 => isD_iff.2 (lookGo_dirs M.nodes p p.size 0 h i (Nat.zero_le _) (by omega) h3), fun h => lookGo_of _ _ _ _ fun i _ h2 h3 => isD_iff.1 (h i (by omega) h3)⟩
theorem abs0_iff {M : PW} {p : ByteArray} : absE M.nodes p = 0 ↔ OkUp M.vw p ∧ M.vw.k p = none := by
  rw [← look0_iff]
  show _ ↔ _ ∧ kindL M.nodes M.F p = none
  rw [kind_none]
  constructor
  · intro h
    refine ⟨?_, abs0 h⟩
    unfold absE at h
    split at h
    · cases h
    · exact h
  · rintro ⟨h, hn⟩
    unfold absE lookT
    rw [h, hn]; simp
theorem pre0_iff {M : PW} {p : ByteArray} : preE M.nodes p = 0 ↔ OkUp M.vw p ∧ M.vw.k p ≠ none := by
  rw [← look0_iff]
  show _ ↔ _ ∧ kindL M.nodes M.F p ≠ none
  rw [Ne, kind_none]
  constructor
  · intro h
    obtain ⟨x, hx, _⟩ := pre0 h
    refine ⟨?_, by rw [hx]; simp⟩
    unfold preE at h
    split at h
    · cases h
    · exact h
  · rintro ⟨h, hn⟩
    unfold preE lookT
    rw [h]
    cases hx : nodeAt M.nodes p with
    | none => exact absurd hx hn
    | some x => simp
theorem lookF_at {l : List Node} {p : ByteArray} {x : Node} (h : preE l p = 0) (hx : nodeAt l p = some x) : lookF l p = x.file := by
  obtain ⟨y, hy, e, _⟩ := pre0 h
  rw [hx] at hy; injection hy with hy; rw [e, hy]
theorem fil0_iff {M : PW} {p : ByteArray} : filE M.nodes p = 0 ↔ OkUp M.vw p ∧ isF (M.vw.k p) = true := by
  show _ ↔ _ ∧ isF (kindL M.nodes M.F p) = true
  rw [isF_iff]
  constructor
  · intro h
    obtain ⟨h1, h2⟩ := fil0 h
    obtain ⟨x, hx, e, _⟩ := pre0 h1
    exact ⟨(pre0_iff.1 h1).1, x, hx, by omega⟩
  · rintro ⟨h, x, hx, h0⟩
    have h1 : preE M.nodes p = 0 := pre0_iff.2 ⟨h, fun e => by rw [kind_none.1 (show kindL M.nodes M.F p = none from e)] at hx; cases hx⟩
    have := lookF_at h1 hx
    unfold filE
    rw [if_neg (by omega)]; exact h1
theorem both0_iff {M : PW} {p q : ByteArray} : bothE M.nodes p q = 0 ↔ (OkUp M.vw p ∧ isF (M.vw.k p) = true) ∧ OkUp M.vw q ∧ M.vw.k q = none := by
  rw [← fil0_iff, ← abs0_iff]
  constructor
  · exact both0
  · rintro ⟨h1, h2⟩
    unfold bothE
    rw [if_pos h1]; exact h2
theorem kids0_iff {M : PW} {p : ByteArray} : kidsC M.nodes p = 0 ↔ ∀ q, M.vw.k q ≠ none → parentB q ≠ p := by
  unfold kidsC
  rw [List.countP_eq_zero]
  constructor
  · intro h q hq e
    have hn : nodeAt M.nodes q ≠ none := fun h2 => hq (kind_none.2 h2)
    cases hx : nodeAt M.nodes q with
    | none => exact hn hx
    | some x =>
      obtain ⟨hm, hp⟩ := nodeAt_some hx
      exact h x hm (by simp [hp, e])
  · intro h x hx
    simp only [decide_eq_true_eq]
    refine h x.path fun e => ?_
    exact nodeAt_none.1 (kind_none.1 (show kindL M.nodes M.F x.path = none from e)) x hx rfl
theorem rm0_iff {M : PW} {p : ByteArray} : rmE M p = 0 ↔ OkUp M.vw p ∧ isD (M.vw.k p) = true ∧ ∀ q, M.vw.k q ≠ none → parentB q ≠ p := by
  rw [← kids0_iff]
  show _ ↔ _ ∧ isD (kindL M.nodes M.F p) = true ∧ _
  rw [isD_iff]
  constructor
  · intro h
    unfold rmE at h
    split at h
    · rename_i h1; exact absurd h h1
    · rename_i h1
      have h1 : preE M.nodes p = 0 := by omega
      obtain ⟨x, hx, e, _⟩ := pre0 h1
      split at h
      · cases h
      · split at h
        · cases h
        · exact ⟨(pre0_iff.1 h1).1, ⟨x, hx, by omega⟩, by omega⟩
  · rintro ⟨h, ⟨x, hx, h0⟩, hk⟩
    have h1 : preE M.nodes p = 0 := pre0_iff.2 ⟨h, fun e => by rw [kind_none.1 (show kindL M.nodes M.F p = none from e)] at hx; cases hx⟩
    have := lookF_at h1 hx
    unfold rmE
    rw [if_neg (by omega), if_neg (by omega), if_neg (by omega)]
/-- What an instruction asks of a look. -/
def vOp (V : Vw) (c : Cmd) : Prop :=
  if c.op = 1 ∨ c.op = 6 then OkUp V c.path ∧ V.k c.path = none
  else if c.op = 2 then OkUp V c.path ∧ isD (V.k c.path) = true ∧ ∀ q, V.k q ≠ none → parentB q ≠ c.path
  else if c.op = 5 then OkUp V c.path ∧ isF (V.k c.path) = true
  else if c.op = 8 then OkUp V c.path ∧ V.k c.path ≠ none
  else (OkUp V c.path ∧ isF (V.k c.path) = true) ∧ OkUp V c.dst ∧ V.k c.dst = none
theorem op0_iff (M : PW) (c : Cmd) : opE M c = 0 ↔ vOp M.vw c := by
  unfold opE vOp
  split
  · exact abs0_iff
  · split
    · exact rm0_iff
    · split
      · exact fil0_iff
      · split
        · exact pre0_iff
        · exact both0_iff
/-- When an instruction is done. -/
theorem do0_iff (M : PW) (c : Cmd) (sd : List ByteArray) : doE M c sd = 0 ↔ isOp c.op = true ∧ (c.op = 9 ∨ (firstE (toB c.op) (modeB c.op) c sd = 0 ∧ (growB c.op = true → M.nodes.length < 256) ∧ vOp M.vw c)) := by
  rw [← op0_iff]
  unfold doE
  cases hi : isOp c.op with
  | false => simp
  | true =>
    rw [if_neg (by simp)]
    by_cases h9 : c.op = 9
    · simp [h9]
    · rw [if_neg h9]
      simp only [true_and, h9, false_or]
      by_cases h1 : firstE (toB c.op) (modeB c.op) c sd = 0
      · rw [if_neg (by simp [h1])]
        by_cases h2 : growB c.op = true ∧ 256 ≤ M.nodes.length
        · rw [if_pos h2]
          refine ⟨fun h => absurd h (full_ne _ _), fun h => ?_⟩
          have := h.2.1 h2.1
          omega
        · rw [if_neg h2]
          refine ⟨fun h => ⟨h1, fun hg => ?_, h⟩, fun h => h.2.2⟩
          rcases Nat.lt_or_ge M.nodes.length 256 with h3 | h3
          · exact h3
          · exact absurd ⟨hg, h3⟩ h2
      · rw [if_pos h1]
        exact ⟨fun h => absurd h h1, fun h => absurd h.1 h1⟩
/-- Where what is at a path comes from, behind an instruction. -/
def sigC (c : Cmd) (sd : List ByteArray) (D : ByteArray) : ByteArray → Src :=
  if c.op = 1 then sNew c.path (.dir c.mode) false
  else if c.op = 2 ∨ c.op = 5 then sDel c.path
  else if c.op = 3 then sMove c.path c.dst
  else if c.op = 4 then sLink c.path c.dst
  else if c.op = 6 then sNew c.path (.file c.mode (refData c sd)) true
  else if c.op = 7 then sNew c.dst (.file c.mode D) true
  else .old
def vDo (V : Vw) (c : Cmd) (sd : List ByteArray) : Vw := if c.op = 8 then V.chm c.path c.mode else V.act (sigC c sd (kdData (V.k c.path)))
theorem act_old (V : Vw) : V.act .old = V := rfl
theorem kd_data {M : PW} {x : Node} (hx : nodeAt M.nodes x.path = some x) (h0 : 0 ≤ x.file) : kdData (M.vw.k x.path) = dataOf M x.file := by
  show kdData (kindL M.nodes M.F x.path) = _
  rw [kindL, hx]
  simp only [Option.map_some, kdOf, if_neg (by omega : ¬ x.file < 0), kdData]
  unfold PW.F dataOf
  cases fileOf M x.file <;> rfl
theorem none_at {M : PW} {p : ByteArray} (h : M.vw.k p = none) : nodeAt M.nodes p = none := kind_none.1 (show kindL M.nodes M.F p = none from h)
/-- What an instruction that is done makes of the look. -/
theorem vw_do {M : PW} (hI : M.Inv) {c : Cmd} {sd : List ByteArray} (h : doE M c sd = 0) : (doM M c sd).vw = vDo M.vw c sd := by
  have h' := (do0_iff M c sd).1 h
  obtain ⟨hop, h'⟩ := h'
  unfold doM vDo
  by_cases h9 : c.op = 9
  · rw [if_neg (fun e => e.2 h9), if_neg (by omega)]
    unfold sigC
    rw [if_neg (by omega), if_neg (by omega), if_neg (by omega), if_neg (by omega), if_neg (by omega), if_neg (by omega)]
    rfl
  · rw [if_pos ⟨h, h9⟩]
    obtain ⟨_, _, hv⟩ := h'.resolve_left h9
    have hop' : 1 ≤ c.op ∧ c.op ≤ 9 := by simpa [isOp] using hop
    have hk : c.op = 1 ∨ c.op = 2 ∨ c.op = 3 ∨ c.op = 4 ∨ c.op = 5 ∨ c.op = 6 ∨ c.op = 7 ∨ c.op = 8 := by omega
    have tk : ∀ {p : ByteArray} {x : Node}, nodeAt M.nodes p = some x → (M.takeAt p).vw = M.vw.act (sDel p) := fun {p x} hx => by
      obtain ⟨hm, hp⟩ := nodeAt_some hx
      unfold PW.takeAt
      rw [hx]
      simp only
      rw [vw_take, hp, del_act]
    have both : vOp M.vw c → c.op = 3 ∨ c.op = 4 ∨ c.op = 7 → ∃ x, nodeAt M.nodes c.path = some x ∧ 0 ≤ x.file ∧ lookF M.nodes c.path = x.file ∧ x.path = c.path ∧ nodeAt M.nodes c.dst = none := fun hv h3 => by
      unfold vOp at hv
      rw [if_neg (by omega), if_neg (by omega), if_neg (by omega), if_neg (by omega)] at hv
      obtain ⟨⟨h1, h2⟩, h3, h4⟩ := hv
      obtain ⟨x, hx, h0⟩ := isF_iff.1 (show isF (kindL M.nodes M.F c.path) = true from h2)
      exact ⟨x, hx, h0, lookF_at (pre0_iff.2 ⟨h1, fun e => by rw [e] at h2; cases h2⟩) hx, (nodeAt_some hx).2, none_at h4⟩
    unfold opM sigC
    rcases hk with e | e | e | e | e | e | e | e
    · unfold vOp at hv
      rw [if_pos (.inl e)] at hv
      rw [if_pos e, if_neg (by omega), if_pos e, ← new_act]
      exact vw_put (x := ⟨c.path, -1, c.mode, c.hp⟩) (none_at hv.2) (by show (-1 : Int) < 0; decide)
    · unfold vOp at hv
      rw [if_neg (by omega), if_pos e] at hv
      obtain ⟨x, hx, _⟩ := isD_iff.1 (show isD (kindL M.nodes M.F c.path) = true from hv.2.1)
      rw [if_neg (by omega), if_pos (.inl e), if_neg (by omega), if_neg (by omega), if_pos (.inl e)]
      exact tk hx
    · obtain ⟨x, hx, h0, e1, hp, hn⟩ := both hv (.inl e)
      rw [if_neg (by omega), if_neg (by omega), if_pos e, if_neg (by omega), if_neg (by omega), if_neg (by omega), if_pos e]
      have hxm := (nodeAt_some hx).1
      have hl := vw_link (M := M) (x := ⟨c.dst, lookF M.nodes c.path, 0, c.hd⟩) (y := x) hn (by rw [hp]; exact hx) h0 e1
      have hfi : x.file ∈ M.files.map (·.id) := by rcases hI.file hxm with k | k; omega; exact k
      have hput : (M.put ⟨c.dst, lookF M.nodes c.path, 0, c.hd⟩).Inv := by
        unfold vOp at hv
        rw [if_neg (by omega), if_neg (by omega), if_neg (by omega), if_neg (by omega)] at hv
        have hf := h'.resolve_left h9
        refine inv_put (x := ⟨c.dst, lookF M.nodes c.path, 0, c.hd⟩) hI hn ((first0 hf.1).2.2.1 (by rw [e]; decide)) (abs_dir hI (abs0_iff.2 hv.2)) (.inr ⟨by simp only; omega, rfl, by simp only [e1]; exact hfi⟩)
      have hm2 : x ∈ (M.put ⟨c.dst, lookF M.nodes c.path, 0, c.hd⟩).nodes := List.mem_append.2 (.inl hxm)
      have hat : nodeAt (M.put ⟨c.dst, lookF M.nodes c.path, 0, c.hd⟩).nodes c.path = some x := (nodeAt_iff hput.apart).2 ⟨hm2, hp⟩
      simp only [PW.takeAt, hat]
      rw [vw_take, hl, hp, move_act]
    · obtain ⟨x, hx, h0, e1, hp, hn⟩ := both hv (.inr (.inl e))
      rw [if_neg (by omega), if_neg (by omega), if_neg (by omega), if_pos e, if_neg (by omega), if_neg (by omega), if_neg (by omega), if_neg (by omega), if_pos e, ← link_act]
      have hl := vw_link (M := M) (x := ⟨c.dst, lookF M.nodes c.path, 0, c.hd⟩) (y := x) hn (by rw [hp]; exact hx) h0 e1
      rw [hl, hp]
    · unfold vOp at hv
      rw [if_neg (by omega), if_neg (by omega), if_pos e] at hv
      obtain ⟨x, hx, _⟩ := isF_iff.1 (show isF (kindL M.nodes M.F c.path) = true from hv.2)
      rw [if_neg (by omega), if_pos (.inr e), if_neg (by omega), if_neg (by omega), if_pos (.inr e)]
      exact tk hx
    · unfold vOp at hv
      rw [if_pos (.inr e)] at hv
      rw [if_neg (by omega), if_neg (by omega), if_neg (by omega), if_neg (by omega), if_pos e, if_neg (by omega), if_neg (by omega), if_neg (by omega), if_neg (by omega), if_neg (by omega), if_pos e, ← new_act]
      exact vw_made hI (none_at hv.2)
    · obtain ⟨x, hx, h0, e1, hp, hn⟩ := both hv (.inr (.inr e))
      rw [if_neg (by omega), if_neg (by omega), if_neg (by omega), if_neg (by omega), if_neg (by omega), if_pos e, if_neg (by omega), if_neg (by omega), if_neg (by omega), if_neg (by omega), if_neg (by omega), if_neg (by omega), if_pos e, ← new_act]
      have hd := kd_data (M := M) (x := x) (by rw [hp]; exact hx) h0
      rw [hp] at hd
      rw [vw_made hI hn, e1, hd]
    · unfold vOp at hv
      rw [if_neg (by omega), if_neg (by omega), if_neg (by omega), if_pos e] at hv
      rw [if_neg (by omega), if_neg (by omega), if_neg (by omega), if_neg (by omega), if_neg (by omega), if_neg (by omega), if_pos e]
      cases hx : nodeAt M.nodes c.path with
      | none => exact absurd (kind_none.2 hx) hv.2
      | some x =>
        have hp := (nodeAt_some hx).2
        rw [← hp] at hx ⊢
        exact vw_chmod hI hx c.mode
/-- Worlds that look alike look alike behind an instruction. -/
theorem SameV.doM {M N : PW} (h : SameV M N) (hM : M.Inv) (hN : N.Inv) (hl : M.nodes.length ≤ 256) (c : Cmd) (sd : List ByteArray) : SameV (doM M c sd) (doM N c sd) := by
  have hE := h.doE hM hN c sd
  have hn := h.length hM hN
  by_cases h0 : Go.Proofs.Ythmeffpickejkaa.doE M c sd = 0
  · have e := h.vw hM.apart hN.apart
    refine SameV.of_vw ?_ (inv_do hM hl c sd).1.apart (inv_do hN (by omega) c sd).1.apart
    rw [vw_do hM h0, vw_do hN (hE ▸ h0), e]
  · rw [doM_same h0, doM_same (by rw [← hE]; exact h0)]
    exact h
end Go.Proofs.Ythmeffpickejkaa
