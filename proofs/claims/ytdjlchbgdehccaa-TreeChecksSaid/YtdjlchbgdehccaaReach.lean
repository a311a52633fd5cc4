/- What the form's reach says of a tree: its paths and its files' bytes take no more than all addresses. -/
import Derived.Test.YtdjlchbgdehccaaBulk
import Derived.SizedLaws
namespace Go.Proofs.Ytdjlchbgdehccaa
open Go.ChangeShapes Go.WideShapes Go.ChangeAt Go.RowKit Go.Deep

section
variable {H : Type} {enc : TypeId × Value → H} {w : World} {base : Nat} {held : Bool}
theorem weights_mem_all {e : TypeId} {d : DataW H} {m : Nat} : ∀ {l : List (DataW H)}, d ∈ l → m ∈ d.weights Try.prog e → m ∈ DataW.weightsAll Try.prog e l
  | [], h, _ => by cases h
  | a :: t, h, hm => by
    rw [DataW.weightsAll, List.mem_append]
    rcases List.mem_cons.1 h with rfl | h
    · exact .inl hm
    · exact .inr (weights_mem_all h hm)
/-- A slice is no longer than its weight. -/
theorem reach_slice {t e : TypeId} {fuel : Nat} {a : Option Addr} {len cap : Nat} {x : DataW H × List MemPlace} (ht : Try.prog.underlying t = some (.slice e)) (he : 1 ≤ Try.prog.bytesOf e) (h : DataW.trod enc Try.prog w base (fun _ => true) held fuel t [.slice a len cap] = some x) {R : Nat} (hR : ∀ m ∈ x.1.weights Try.prog t, m ≤ R) : len ≤ R := by
  rcases open_slice ht h with ⟨hc, _⟩ | ⟨ad, l, c, m, n, D, Pl, hc, _, hl, hm, hmm, hx, hall⟩
  · simp only [List.cons.injEq, and_true, Value.slice.injEq] at hc
    omega
  · simp only [List.cons.injEq, and_true, Value.slice.injEq] at hc
    obtain ⟨rfl, rfl, rfl⟩ := hc
    rw [hx] at hR
    simp only [DataW.weights, ht] at hR
    have h1 := hR _ (List.mem_cons_self ..)
    rw [List.length_map, List.length_range] at h1
    have h2 : len * 1 ≤ (len + ((List.range (m - len)).map fun j => D (len + j)).length) * Try.prog.bytesOf e := Nat.mul_le_mul (by omega) he
    omega
/-- Each element's weights are among the whole's. -/
theorem reach_elem {t e : TypeId} {sz : Nat} {fuel : Nat} {a : Option Addr} {len cap : Nat} {x : DataW H × List MemPlace} {α : Type} {f : α → List Value} (hf : ∀ x, (f x).length = sz) (ht : Try.prog.underlying t = some (.slice e)) (he : Try.prog.cellsOf e = sz)
    (h : DataW.trod enc Try.prog w base (fun _ => true) held fuel t [.slice a len cap] = some x) {B : Nat} {xs : List α} (hS : Sl w B sz a len (xs.flatMap f)) (hl : xs.length = len) {k : Nat} {y : α} (hk : xs[k]? = some y) :
    ∃ (n : Nat) (z : DataW H × List MemPlace), DataW.trod enc Try.prog w base (fun _ => true) held n e (f y) = some z ∧ ∀ m ∈ z.1.weights Try.prog e, m ∈ x.1.weights Try.prog t := by
  have hkl : k < len := by rw [← hl]; exact (List.getElem?_eq_some_iff.1 hk).1
  rcases open_slice ht h with ⟨hc, _⟩ | ⟨ad, l, c, m, n, D, Pl, hc, _, hlc, hm, hmm, hx, hall⟩
  · simp only [List.cons.injEq, and_true, Value.slice.injEq] at hc
    omega
  · simp only [List.cons.injEq, and_true, Value.slice.injEq] at hc
    obtain ⟨rfl, rfl, rfl⟩ := hc
    simp only [if_true] at hmm
    obtain ⟨cs', h1, h2⟩ := hall k (by omega)
    rw [he] at h1
    obtain ⟨_, hlen, hcell⟩ := World.cells?_some h1
    obtain ⟨b, o, e1, _, hr⟩ := hS.2 (by omega)
    injection e1 with e1
    subst e1
    have hcs : cs' = f y := by
      apply List.ext_getElem?
      intro j
      by_cases hj : j < sz
      · have q1 := hcell j hj
        rw [add_at, add_at] at q1
        obtain ⟨v, hv⟩ : ∃ v, (f y)[j]? = some v := ⟨_, List.getElem?_eq_getElem (by rw [hf]; exact hj)⟩
        have q2 := RowAt.get hf hr hk hv
        rw [q2] at q1
        rw [← q1, hv]
      · rw [List.getElem?_eq_none (by omega), List.getElem?_eq_none (by rw [hf]; omega)]
    rw [hcs] at h2
    refine ⟨n, _, h2, fun q hq => ?_⟩
    rw [hx]
    have h3 : D k ∈ (List.range len).map D := List.mem_map.2 ⟨k, List.mem_range.2 hkl, rfl⟩
    simp only [DataW.weights, ht, List.mem_cons, List.mem_append]
    exact .inr (.inl (weights_mem_all h3 hq))
set_option maxRecDepth 100000 in
theorem tree_reach {r : Reach} {b0 R : Nat} {t : TV} {ds : List ByteArray} {d : DataW H} {p : List MemPlace} (hv : Value.okWide Try.prog w r b0 26 t.val) (h : DataW.Trod enc Try.prog w base (fun _ => true) held 26 t.val d p) (hT : TreeD w t ds) (hR : ∀ m ∈ d.weights Try.prog 26, m ≤ R) :
    (∀ x ∈ t.nodes, x.path.size ≤ R) ∧ ∀ x ∈ t.files, x.n ≤ R := by
  obtain ⟨v0, v1, y0, y1, n, he, rfl, rfl, h0, h1⟩ := Joins.open_agg2 Try.underlying26 (by kernel_rfl) (by kernel_rfl) hv h
  unfold TV.val at he
  injection he with he
  obtain ⟨rfl, rfl⟩ : .slice t.NA t.nn t.nc = v0 ∧ .slice t.FA t.fn t.fc = v1 := by simpa using he
  have hw : ∀ m, m ∈ y0.1.weights Try.prog 23 ∨ m ∈ y1.1.weights Try.prog 24 → m ≤ R := fun m hm => hR m (by
    simp only [DataW.weights, Try.underlying26, DataW.weightsEach, List.append_nil, List.mem_append, List.map]
    exact hm)
  refine ⟨fun x hx => ?_, fun x hx => ?_⟩
  · obtain ⟨k, hk⟩ := List.getElem?_of_mem hx
    obtain ⟨m, z, hz, hzb⟩ := reach_elem Node.len Try.underlying23 (by kernel_rfl) h0 hT.tree.ns hT.tree.nl hk
    obtain ⟨z0, z1, z2, m2, rfl, _, hz0, _, _⟩ := trod_struct3 Try.underlying29 hz
    have c9 : Try.prog.cellsOf 9 = 1 := by kernel_rfl
    have hz2 : DataW.trod enc Try.prog w base (fun _ => true) held m2 9 [.string x.path] = some z0 := by
      have := hz0
      simp only [c9, Node.list] at this
      exact this
    obtain ⟨s, e0, d0, _⟩ := DataW.trod_string Try.underlying9 hz2
    simp only [List.cons.injEq, and_true, Value.string.injEq] at e0
    subst e0
    have := hw x.path.size (.inl (hzb _ (by
      simp only [DataW.weights, Try.underlying29, DataW.weightsEach, d0, List.map, List.mem_append]
      left
      simp)))
    exact this
  · obtain ⟨k, hk⟩ := List.getElem?_of_mem hx
    obtain ⟨m, z, hz, hzb⟩ := reach_elem FC.len Try.underlying24 (by kernel_rfl) h1 hT.tree.fs hT.tree.fl hk
    obtain ⟨z0, z1, m2, rfl, _, _, hz1⟩ := trod_struct2 Try.underlying39 hz
    have c9 : Try.prog.cellsOf 27 = 1 := by kernel_rfl
    have hz2 : DataW.trod enc Try.prog w base (fun _ => true) held m2 27 [.slice x.A x.n x.c] = some z1 := by
      have := hz1
      simp only [c9, FC.list] at this
      exact this
    refine reach_slice Try.underlying27 (of_decide_eq_true (by kernel_rfl)) hz2 fun q hq => hw q (.inr (hzb q ?_))
    simp only [DataW.weights, Try.underlying39, DataW.weightsEach, List.map, List.mem_append]
    exact .inr (.inl hq)
/-- Within the form's reach. -/
def ReachT (t : TV) : Prop := (∀ x ∈ t.nodes, x.path.size ≤ 140737488355328) ∧ ∀ x ∈ t.files, x.n ≤ 140737488355328
set_option maxRecDepth 100000 in
theorem reachT {r : Reach} {b0 : Nat} {t : TV} {ds : List ByteArray} {d : DataW H} {p : List MemPlace} (hv : Value.okWide Try.prog w r b0 26 t.val) (h : DataW.Trod enc Try.prog w base (fun _ => true) held 26 t.val d p) (hT : TreeD w t ds) (hR : ∀ m ∈ d.weights Try.prog 26, m ≤ reachBytes) : ReachT t := by
  have h1 := tree_reach hv h hT hR
  have h2 : reachBytes ≤ 140737488355328 := of_decide_eq_true (by kernel_rfl)
  exact ⟨fun x hx => Nat.le_trans (h1.1 x hx) h2, fun x hx => Nat.le_trans (h1.2 x hx) h2⟩
end
end Go.Proofs.Ytdjlchbgdehccaa
