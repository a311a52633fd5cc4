/- What is read in bulk: the sizes of slices within it. -/
import Derived.Test.YthmeffpickejkaaGreatOpenT
import Derived.Test.YthmeffpickejkaaGreatRows
namespace Go.Proofs.YthmeffpickejkaaGreat
open Go.ChangeShapes Go.WideShapes Go.ChangeAt Go.RowKit Go.Deep

section
variable {H : Type} {enc : TypeId × Value → H} {w : World} {base : Nat} {held : Bool}
theorem bulk_pos : ∀ d : DataW H, 1 ≤ Rows.uptoBulk d
  | .lit (.string _) => by rw [Rows.uptoBulk]; omega
  | .lit _ => by unfold Rows.uptoBulk; split <;> omega
  | .nil => by rw [Rows.uptoBulk]; omega
  | .ptr _ => by rw [Rows.uptoBulk]; omega
  | .slice _ _ => by rw [Rows.uptoBulk]; omega
  | .agg _ => by rw [Rows.uptoBulk]; omega
  | .iface _ _ => by rw [Rows.uptoBulk]; omega
  | .map _ => by rw [Rows.uptoBulk]; omega
  | .held _ => by rw [Rows.uptoBulk]; omega
theorem bulk_len : ∀ l : List (DataW H), l.length ≤ Rows.uptoBulkAll l
  | [] => by simp [Rows.uptoBulkAll]
  | d :: t => by
    have h1 := bulk_pos d
    have h2 := bulk_len t
    simp only [List.length_cons, Rows.uptoBulkAll]
    omega
theorem bulk_mem : ∀ {l : List (DataW H)} {d : DataW H}, d ∈ l → Rows.uptoBulk d ≤ Rows.uptoBulkAll l
  | [], _, h => by cases h
  | a :: t, d, h => by
    simp only [Rows.uptoBulkAll]
    rcases List.mem_cons.1 h with rfl | h
    · omega
    · have := bulk_mem h; omega
/-- A slice is no longer than what is read of it. -/
theorem bulk_slice {t e : TypeId} {fuel : Nat} {a : Option Addr} {len cap : Nat} {x : DataW H × List MemPlace} (ht : Tryz.prog.underlying t = some (.slice e)) (h : DataW.trod enc Tryz.prog w base (fun _ => true) held fuel t [.slice a len cap] = some x) : len ≤ Rows.uptoBulk x.1 := by
  rcases open_slice ht h with ⟨hc, _⟩ | ⟨ad, l, c, m, n, D, Pl, hc, _, hl, hm, hmm, hx, hall⟩
  · simp only [List.cons.injEq, and_true, Value.slice.injEq] at hc
    omega
  · simp only [List.cons.injEq, and_true, Value.slice.injEq] at hc
    obtain ⟨rfl, rfl, rfl⟩ := hc
    rw [hx]
    have := bulk_len ((List.range len).map D)
    rw [List.length_map, List.length_range] at this
    simp only [Rows.uptoBulk]
    omega
/-- Each element's reading is within the whole's. -/
theorem bulk_elem {t e : TypeId} {sz : Nat} {fuel : Nat} {a : Option Addr} {len cap : Nat} {x : DataW H × List MemPlace} {α : Type} {f : α → List Value} (hf : ∀ x, (f x).length = sz) (ht : Tryz.prog.underlying t = some (.slice e)) (he : Tryz.prog.cellsOf e = sz)
    (h : DataW.trod enc Tryz.prog w base (fun _ => true) held fuel t [.slice a len cap] = some x) {B : Nat} {xs : List α} (hS : Sl w B sz a len (xs.flatMap f)) (hl : xs.length = len) {k : Nat} {y : α} (hk : xs[k]? = some y) :
    ∃ (n : Nat) (z : DataW H × List MemPlace), DataW.trod enc Tryz.prog w base (fun _ => true) held n e (f y) = some z ∧ Rows.uptoBulk z.1 ≤ Rows.uptoBulk x.1 := by
  have hkl : k < len := by rw [← hl]; exact (List.getElem?_eq_some_iff.1 hk).1
  rcases open_slice ht h with ⟨hc, _⟩ | ⟨ad, l, c, m, n, D, Pl, hc, _, hlc, hm, hmm, hx, hall⟩
  · simp only [List.cons.injEq, and_true, Value.slice.injEq] at hc
    omega
  · simp only [List.cons.injEq, and_true, Value.slice.injEq] at hc
    obtain ⟨rfl, rfl, rfl⟩ := hc
    simp only [if_true] at hmm
    obtain ⟨cs', h1, h2⟩ := hall k (by omega)
    rw [he] at h1
    obtain ⟨_, hlen, hcell⟩ := World.cells?_some h1
    obtain ⟨b, o, e1, _, hr⟩ := hS.2 (by omega)
    injection e1 with e1
    subst e1
    have hcs : cs' = f y := by
      apply List.ext_getElem?
      intro j
      by_cases hj : j < sz
      · have q1 := hcell j hj
        rw [add_at, add_at] at q1
        obtain ⟨v, hv⟩ : ∃ v, (f y)[j]? = some v := ⟨_, List.getElem?_eq_getElem (by rw [hf]; exact hj)⟩
        have q2 := RowAt.get hf hr hk hv
        rw [q2] at q1
        rw [← q1, hv]
      · rw [List.getElem?_eq_none (by omega), List.getElem?_eq_none (by rw [hf]; omega)]
    rw [hcs] at h2
    refine ⟨n, _, h2, ?_⟩
    rw [hx]
    have h3 : D k ∈ (List.range len).map D := List.mem_map.2 ⟨k, List.mem_range.2 hkl, rfl⟩
    have := bulk_mem h3
    simp only [Rows.uptoBulk]
    omega
set_option maxRecDepth 100000 in
theorem tree_small {r : Reach} {b0 : Nat} {t : TV} {ds : List ByteArray} {d : DataW H} {p : List MemPlace} (hv : Value.okWide Tryz.prog w r b0 25 t.val) (h : DataW.Trod enc Tryz.prog w base (fun _ => true) held 25 t.val d p) (hT : TreeD w t ds) : ∀ x ∈ t.files, x.n ≤ Rows.uptoBulk d := by
  obtain ⟨v0, v1, y0, y1, n, he, rfl, rfl, h0, h1⟩ := Joins.open_agg2 Tryz.underlying25 (by kernel_rfl) (by kernel_rfl) hv h
  unfold TV.val at he
  injection he with he
  obtain ⟨rfl, rfl⟩ : .slice t.NA t.nn t.nc = v0 ∧ .slice t.FA t.fn t.fc = v1 := by simpa using he
  intro x hx
  obtain ⟨k, hk⟩ := List.getElem?_of_mem hx
  obtain ⟨m, z, hz, hzb⟩ := bulk_elem FC.len Tryz.underlying23 (by kernel_rfl) h1 hT.tree.fs hT.tree.fl hk
  obtain ⟨z0, z1, m2, rfl, _, _, hz1⟩ := trod_struct2 Tryz.underlying59 hz
  have c9 : Tryz.prog.cellsOf 57 = 1 := by kernel_rfl
  have hz2 : DataW.trod enc Tryz.prog w base (fun _ => true) held m2 57 [.slice x.A x.n x.c] = some z1 := by
    have := hz1
    simp only [c9, FC.list] at this
    exact this
  have h2 := bulk_slice Tryz.underlying57 hz2
  simp only [Rows.uptoBulk, Rows.uptoBulkAll] at hzb ⊢
  omega
end
end Go.Proofs.YthmeffpickejkaaGreat
