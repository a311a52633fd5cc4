/- A tree's bytes tell it. -/
import Derived.Test.YtdjlchbgdehccaaBytes
import Derived.Test.YtdjlchbgdehccaaSame
import Derived.Test.YtdjlchbgdehccaaCopy0
namespace Go.Proofs.Ytdjlchbgdehccaa
open Go.RowKit

theorem bytesI_inj {d e : ByteArray} (h : bytesI d = bytesI e) : d = e := by
  apply ba_ext
  unfold bytesI at h
  exact (List.map_inj_right (fun a b h => UInt8.toNat_inj.1 (by omega))).1 h
theorem twoI_inj {a b : Int} (h : twoI a = twoI b) : a = b := by
  unfold twoI at h
  injection h with h1 h2
  injection h2 with h2
  omega
theorem node_inj {x y : Node} {r r' : List Int} (h : nodeI x ++ r = nodeI y ++ r') : x = y ∧ r = r' := by
  unfold nodeI at h
  simp only [List.cons_append] at h
  injection h with h1 h2
  have hs : (bytesI x.path).length = (bytesI y.path).length := by rw [bytesI_len, bytesI_len]; omega
  simp only [List.append_assoc] at h2
  obtain ⟨h3, h4⟩ := List.append_inj h2 hs
  obtain ⟨h5, h6⟩ := List.append_inj h4 rfl
  obtain ⟨h7, h8⟩ := List.append_inj h6 rfl
  have e1 := bytesI_inj h3
  have e2 := twoI_inj h5
  have e3 := twoI_inj h7
  refine ⟨?_, h8⟩
  obtain ⟨a, b, c, _⟩ := x
  obtain ⟨a', b', c', _⟩ := y
  simp only at e1 e2 e3
  subst e1 e3
  have : b = b' := by omega
  subst this
  rfl
theorem nodes_inj : ∀ (l m : List Node) (r r' : List Int), l.length = m.length → l.flatMap nodeI ++ r = m.flatMap nodeI ++ r' → l = m ∧ r = r'
  | [], [], r, r', _, h => ⟨rfl, by simpa using h⟩
  | [], _ :: _, _, _, h, _ => by simp at h
  | _ :: _, [], _, _, h, _ => by simp at h
  | x :: l, y :: m, r, r', hl, h => by
    rw [List.flatMap_cons, List.flatMap_cons, List.append_assoc, List.append_assoc] at h
    obtain ⟨h1, h2⟩ := node_inj h
    obtain ⟨h3, h4⟩ := nodes_inj l m r r' (by simpa using hl) h2
    exact ⟨by rw [h1, h3], h4⟩
theorem files_inj : ∀ (fs gs : List FC) (ds es : List ByteArray), fs.length = gs.length → ds.length = fs.length → es.length = gs.length → filesI fs ds = filesI gs es → fs.map (·.mode) = gs.map (·.mode) ∧ ds = es
  | [], [], [], [], _, _, _, _ => ⟨rfl, rfl⟩
  | [], [], _ :: _, _, _, h, _, _ => by simp at h
  | [], [], [], _ :: _, _, _, h, _ => by simp at h
  | [], _ :: _, _, _, h, _, _, _ => by simp at h
  | _ :: _, [], _, _, h, _, _, _ => by simp at h
  | _ :: _, _ :: _, [], _, _, h, _, _ => by simp at h
  | _ :: _, _ :: _, _ :: _, [], _, _, h, _ => by simp at h
  | f :: fs, g :: gs, d :: ds, e :: es, h1, h2, h3, h => by
    unfold filesI fileI at h
    simp only [List.append_assoc] at h
    obtain ⟨h4, h5⟩ := List.append_inj h rfl
    obtain ⟨h6, h7⟩ := List.append_inj h5 rfl
    have hs : d.size = e.size := by have := twoI_inj h6; omega
    obtain ⟨h8, h9⟩ := List.append_inj h7 (by rw [bytesI_len, bytesI_len, hs])
    obtain ⟨h10, h11⟩ := files_inj fs gs ds es (by simpa using h1) (by simpa using h2) (by simpa using h3) h9
    exact ⟨by rw [List.map_cons, List.map_cons, twoI_inj h4, h10], by rw [bytesI_inj h8, h11]⟩
theorem tree_inj {t u : TV} {ds es : List ByteArray} (hd : ds.length = t.files.length) (he : es.length = u.files.length) (h : treeI t ds = treeI u es) : exactB t u ds es = true := by
  unfold treeI at h
  obtain ⟨h1, h2⟩ := List.append_inj h rfl
  have hl : t.nodes.length = u.nodes.length := by have := twoI_inj h1; omega
  obtain ⟨h3, h4⟩ := nodes_inj _ _ _ _ hl h2
  obtain ⟨h5, h6⟩ := List.append_inj h4 rfl
  have hl2 : t.files.length = u.files.length := by have := twoI_inj h5; omega
  obtain ⟨h7, h8⟩ := files_inj _ _ _ _ hl2 hd he h6
  rw [exactB, decide_eq_true h3, decide_eq_true h7, decide_eq_true h8]; rfl
theorem strOfNums_inj {xs ys : List Int} (hx : ∀ x ∈ xs, 0 ≤ x ∧ x ≤ 255) (hy : ∀ y ∈ ys, 0 ≤ y ∧ y ≤ 255) (h : strOfNums xs = strOfNums ys) : xs = ys := by
  have h' := congrArg (fun s => s.data.toList.map fun b => (b.toNat : Int)) h
  simp only [strOfNums_data, List.map_map] at h'
  have key : ∀ (zs : List Int), (∀ z ∈ zs, 0 ≤ z ∧ z ≤ 255) → zs.map ((fun b : UInt8 => (b.toNat : Int)) ∘ fun (x : Int) => UInt8.ofNat x.toNat) = zs := fun zs hz => by
    conv => rhs; rw [← List.map_id zs]
    refine List.map_congr_left fun z hm => ?_
    have := hz z hm
    simp
    omega
  rw [key xs hx, key ys hy] at h'
  exact h'
theorem bytesI_range (d : ByteArray) : ∀ x ∈ bytesI d, 0 ≤ x ∧ x ≤ 255 := by
  intro x hx
  obtain ⟨b, _, rfl⟩ := List.mem_map.1 hx
  have := b.toNat_lt
  omega
theorem twoI_range {k : Int} (h0 : 0 ≤ k) (h1 : k ≤ 65535) : ∀ x ∈ twoI k, 0 ≤ x ∧ x ≤ 255 := by
  intro x hx
  simp only [twoI, List.mem_cons, List.not_mem_nil, or_false] at hx
  rcases hx with rfl | rfl <;> omega
theorem filesI_range : ∀ (fs : List FC) (ds : List ByteArray), (∀ f ∈ fs, 0 ≤ f.mode ∧ f.mode ≤ 511) → (∀ d ∈ ds, d.size ≤ 8192) → ∀ x ∈ filesI fs ds, 0 ≤ x ∧ x ≤ 255
  | [], _, _, _, x, hx => by simp [filesI] at hx
  | _ :: _, [], _, _, x, hx => by simp [filesI] at hx
  | f :: fs, d :: ds, h1, h2, x, hx => by
    unfold filesI fileI at hx
    rcases List.mem_append.1 hx with hx | hx
    · rcases List.mem_append.1 hx with hx | hx
      · have := h1 f (by simp); exact twoI_range (by omega) (by omega) x hx
      · rcases List.mem_append.1 hx with hx | hx
        · have := h2 d (by simp); exact twoI_range (by omega) (by omega) x hx
        · exact bytesI_range d x hx
    · exact filesI_range fs ds (fun g hg => h1 g (List.mem_cons_of_mem _ hg)) (fun e he => h2 e (List.mem_cons_of_mem _ he)) x hx
theorem okMode_le {m : Int} (h : okMode m = true) : 0 ≤ m ∧ m ≤ 511 := of_decide_eq_true h
theorem treeI_range {t : TV} {ds : List ByteArray} (G : Good t) (hnl : t.nodes.length = t.nn) (hfl : t.files.length = t.fn) (hds : ∀ d ∈ ds, d.size ≤ 8192) : ∀ x ∈ treeI t ds, 0 ≤ x ∧ x ≤ 255 := by
  intro x hx
  have hn := G.nn
  have hf := G.fn
  unfold treeI at hx
  rcases List.mem_append.1 hx with hx | hx
  · exact twoI_range (by omega) (by omega) x hx
  · rcases List.mem_append.1 hx with hx | hx
    · obtain ⟨y, hy, hx⟩ := List.mem_flatMap.1 hx
      have hv := valid_len (G.valid y hy)
      rw [dlen] at hv
      unfold nodeI at hx
      rcases List.mem_cons.1 hx with rfl | hx
      · omega
      · rcases List.mem_append.1 hx with hx | hx
        · exact bytesI_range _ x hx
        · rcases List.mem_append.1 hx with hx | hx
          · rcases G.kind y hy with ⟨h1, _⟩ | ⟨h1, h2, _⟩ <;> exact twoI_range (by omega) (by omega) x hx
          · rcases G.kind y hy with ⟨_, h1⟩ | ⟨_, _, h1⟩
            · have := okMode_le h1; exact twoI_range (by omega) (by omega) x hx
            · exact twoI_range (by omega) (by omega) x hx
    · rcases List.mem_append.1 hx with hx | hx
      · exact twoI_range (by omega) (by omega) x hx
      · exact filesI_range _ _ (fun f hf => okMode_le (G.modes f hf)) hds x hx
theorem tree_str {t u : TV} {ds es : List ByteArray} (hd : ds.length = t.files.length) (he : es.length = u.files.length) (hx : ∀ x ∈ treeI t ds, 0 ≤ x ∧ x ≤ 255) (hy : ∀ x ∈ treeI u es, 0 ≤ x ∧ x ≤ 255) (hne : exactB t u ds es = false) : ((strOfNums (treeI t ds)).toList == (strOfNums (treeI u es)).toList) = false := by
  rw [beq_eq_false_iff_ne]
  intro h
  have := tree_inj hd he (strOfNums_inj hx hy (toList_inj h))
  rw [hne] at this
  cases this
theorem run_convI {w : World} {B n c : Nat} {A : Option Addr} {xs : List Int} (h : Sl w B 1 A n (i8C xs)) (hn : xs.length = n) (h0 : 0 < n) :
    (convert 27 9 (.slice A n c)).run Try.prog w = .ok (.string (strOfNums xs)) w := by
  obtain ⟨b, o, rfl, _, hr⟩ := h.2 h0
  exact run_convert_bytes_arg w 27 5 Try.underlying27 Try.underlying5 b o n c xs hn (fun i hi => by
    refine hr i _ ?_
    have hi' : i < xs.length := by omega
    simp [i8C, List.getD, List.getElem?_eq_getElem hi', List.getElem?_map]) 9 Try.underlying9
/-- One cell of a row of the call's own is written. -/
theorem own_setcell {w : World} {base e sz g n c i : Nat} {L : List Value} (h : w.ownsRow base e sz (.slice (some ⟨g, 0, none⟩) n c) n L) (v : Value) :
    (w.setCell ⟨g, i, none⟩ v).ownsRow base e sz (.slice (some ⟨g, 0, none⟩) n c) n (L.set i v) := by
  refine ⟨by rw [List.length_set]; exact h.1, ?_⟩
  rcases h.2 with ⟨h', _⟩ | ⟨g', cap, cur, hv, hg, hh, hnc, hcm, hcs, ht⟩
  · cases h'
  · injection hv with hA _ hC
    injection hA with hA
    injection hA with hA
    subst hA hC
    refine .inr ⟨g, c, cur.setIfInBounds i v, rfl, hg, heap_setCell_same w g i cur e v hh, hnc, hcm, by simpa using hcs, ?_⟩
    rw [Array.toList_setIfInBounds, List.take_set, ht]
theorem flat_set {α : Type} {f : α → List Value} {sz : Nat} (hf : ∀ x, (f x).length = sz) : ∀ {xs : List α} {k j : Nat} {x x' : α} {v : Value}, xs[k]? = some x → j < sz → f x' = (f x).set j v → (xs.flatMap f).set (k * sz + j) v = (xs.set k x').flatMap f
  | [], k, j, x, x', v, h, _, _ => by simp at h
  | y :: t, 0, j, x, x', v, h, hj, he => by
    simp at h; subst h
    rw [List.flatMap_cons, List.set_cons_zero, List.flatMap_cons, he, Nat.zero_mul, Nat.zero_add, List.set_append_left _ _ (by rw [hf]; exact hj)]
  | y :: t, k + 1, j, x, x', v, h, hj, he => by
    rw [List.flatMap_cons, List.set_cons_succ, List.flatMap_cons, List.set_append_right _ _ (by rw [hf, Nat.succ_mul]; omega), hf, show (k + 1) * sz + j - sz = k * sz + j by rw [Nat.succ_mul]; omega, flat_set hf (by simpa using h) hj he]
end Go.Proofs.Ytdjlchbgdehccaa
