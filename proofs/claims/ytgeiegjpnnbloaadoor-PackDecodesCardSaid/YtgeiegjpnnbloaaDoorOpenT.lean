/- An argument of type api.Tree, opened. -/
import Derived.Test.YtgeiegjpnnbloaaDoorTreeD
import Derived.Test.YtgeiegjpnnbloaaDoorKit
import Derived.Lib.SmallJoins
namespace Go.Proofs.YtgeiegjpnnbloaaDoor
open Go.ChangeShapes Go.WideShapes Go.ChangeAt Go.RowKit Go.Deep

instance : Inhabited Node := ⟨⟨ByteArray.empty, 0, 0, by decide⟩⟩
instance : Inhabited FC := ⟨⟨0, none, 0, 0⟩⟩
section
variable {α : Type} {f : α → List Value} {sz : Nat}
theorem row_of_fn {w : World} {b o n : Nat} (hf : ∀ x, (f x).length = sz) (g : Nat → α) (h : ∀ k, k < n → ∀ j v, (f (g k))[j]? = some v → w.cell? ⟨b, o + (k * sz + j), none⟩ = some v) : RowAt w b o (((List.range n).map g).flatMap f) := by
  intro i v hv
  have hlt : i < (((List.range n).map g).flatMap f).length := (List.getElem?_eq_some_iff.1 hv).1
  rw [flat_length hf, List.length_map, List.length_range] at hlt
  have hsz : 0 < sz := by
    rcases Nat.eq_zero_or_pos sz with h0 | h0
    · rw [h0] at hlt; omega
    · exact h0
  have hk : i / sz < n := Nat.div_lt_of_lt_mul (by rw [Nat.mul_comm]; exact hlt)
  have hx : ((List.range n).map g)[i / sz]? = some (g (i / sz)) := by simp [hk]
  have hi : i = i / sz * sz + i % sz := by rw [Nat.mul_comm]; exact (Nat.div_add_mod i sz).symm
  rw [hi] at hv
  rw [flat_get hf hx (Nat.mod_lt _ hsz)] at hv
  rw [hi]
  exact h _ hk _ _ hv
variable [Inhabited α] {H : Type} {enc : TypeId × Value → H} {w : World} {base : Nat} {held : Bool}
theorem open_list (hf : ∀ x, (f x).length = sz) (hsz : 0 < sz) (Q : α → Prop) {t e : TypeId} (ht : Tryd.prog.underlying t = some (.slice e)) (he : Tryd.prog.cellsOf e = sz)
    (hof : ∀ n cs x, DataW.trod enc Tryd.prog w base (fun _ => true) held n e cs = some x → (∀ p ∈ x.2, p.block < w.heap.size) → ∃ i : α, cs = f i ∧ Q i)
    {fuel : Nat} {a : Option Addr} {len cap : Nat} {x : DataW H × List MemPlace} (h : DataW.trod enc Tryd.prog w base (fun _ => true) held fuel t [.slice a len cap] = some x) (hlt : ∀ p ∈ x.2, p.block < w.heap.size) :
    ∃ xs : List α, xs.length = len ∧ Sl w w.heap.size sz a len (xs.flatMap f) ∧ (∀ x ∈ xs, Q x) ∧ len ≤ cap ∧ cap ≤ maxLen := by
  rcases open_slice ht h with ⟨hc, _⟩ | ⟨ad, l, c, m, n, D, Pl, hc, _, hl, hm, hmm, hx, hall⟩
  · simp only [List.cons.injEq, and_true, Value.slice.injEq] at hc
    obtain ⟨rfl, rfl, rfl⟩ := hc
    exact ⟨[], rfl, Sl.nil _ _ _ _, fun y hy => (by cases hy), Nat.le_refl _, Nat.zero_le _⟩
  · simp only [List.cons.injEq, and_true, Value.slice.injEq] at hc
    obtain ⟨rfl, rfl, rfl⟩ := hc
    simp only [if_true] at hmm
    rw [he] at hall hx
    rcases Nat.eq_zero_or_pos len with h0 | h0
    · subst h0
      exact ⟨[], rfl, Sl.nil _ _ _ _, fun y hy => (by cases hy), hl, hm⟩
    have hone : ∀ k, ∃ i : α, k < len → (∀ j v, (f i)[j]? = some v → w.cell? (ad.add (k * sz + j)) = some v) ∧ Q i := fun k => by
      by_cases hk : k < len
      · obtain ⟨cs', h1, h2⟩ := hall k (by omega)
        obtain ⟨_, hlen, hcell⟩ := World.cells?_some h1
        obtain ⟨i, rfl, hQ⟩ := hof _ _ _ h2 fun p hp => hlt p (by
          rw [hx]
          exact List.mem_append_right _ (List.mem_flatMap.2 ⟨k, List.mem_range.2 (by omega), hp⟩))
        refine ⟨i, fun _ => ⟨fun j v hj => ?_, hQ⟩⟩
        have hj5 : j < sz := by rw [← hf i]; exact (List.getElem?_eq_some_iff.1 hj).1
        rw [← add_add, hcell j hj5, hj]
      · exact ⟨default, fun h => absurd h hk⟩
    obtain ⟨b, o, spot⟩ := ad
    have hspot : spot = none := by
      have h1 := ((hone 0).choose_spec h0).1
      obtain ⟨v, hv⟩ : ∃ v, (f (hone 0).choose)[0]? = some v := ⟨_, List.getElem?_eq_getElem (by rw [hf]; exact hsz)⟩
      have hs0 := h1 0 v hv
      simpa [Addr.add] using World.cell?_spot hs0
    subst hspot
    refine ⟨(List.range len).map fun k => (hone k).choose, by simp, ⟨by rw [flat_length hf]; simp, fun _ => ⟨b, o, rfl, ?_, row_of_fn hf _ fun k hk j v hj => ?_⟩⟩, fun y hy => ?_, hl, hm⟩
    · have : MemPlace.cell b o ∈ x.2 := by
        rw [hx]
        refine List.mem_append_left _ ?_
        simp only [MemPlace.row, List.mem_map, List.mem_range]
        exact ⟨0, Nat.mul_pos (by omega) hsz, rfl⟩
      exact hlt _ this
    · have := ((hone k).choose_spec hk).1 j v hj
      rwa [add_at] at this
    · obtain ⟨k, hk, rfl⟩ := List.mem_map.1 hy
      exact ((hone k).choose_spec (List.mem_range.1 hk)).2
end
section
variable {H : Type} {enc : TypeId × Value → H} {w : World} {base : Nat} {held : Bool}
def byteC (b : UInt8) : List Value := [.int .u8 b.toNat]
/-- Bytes that came in. -/
theorem open_bytes {fuel : Nat} {a : Option Addr} {len cap : Nat} {x : DataW H × List MemPlace} (h : DataW.trod enc Tryd.prog w base (fun _ => true) held fuel 22 [.slice a len cap] = some x) (hlt : ∀ p ∈ x.2, p.block < w.heap.size) :
    ∃ d : ByteArray, d.size = len ∧ Sl w w.heap.size 1 a len (bytesC d) ∧ len ≤ cap ∧ cap ≤ maxLen := by
  obtain ⟨xs, hl, hS, _, hc, hm⟩ := open_list (α := UInt8) (f := byteC) (sz := 1) (fun _ => rfl) (by omega) (fun _ => True) Tryd.underlying22 (e := 5) (by kernel_rfl) (fun n cs x hx _ => by
    obtain ⟨v, rfl, _, hw⟩ := DataW.trod_int Tryd.underlying5 hx
    refine ⟨UInt8.ofNat v.toNat, ?_, trivial⟩
    have h0 : 0 ≤ v ∧ v < 256 := by
      simp only [Lit.wf, Bool.and_eq_true, decide_eq_true_eq, show IntKind.u8.min = 0 from rfl, show IntKind.u8.max = 255 from rfl] at hw
      omega
    have : (UInt8.ofNat v.toNat).toNat = v.toNat := by simp; omega
    rw [byteC, this]
    congr 2
    omega) h hlt
  refine ⟨⟨xs.toArray⟩, by rw [← hl]; simp [ByteArray.size], ?_, hc, hm⟩
  have : bytesC ⟨xs.toArray⟩ = xs.flatMap byteC := by
    clear hl hS
    rw [bytesC, List.flatMap_def]
    show xs.map (fun b => Value.int .u8 b.toNat) = (xs.map byteC).flatten
    induction xs with
    | nil => rfl
    | cons b t ih => rw [List.map_cons, List.map_cons, List.flatten_cons, ih (fun _ _ => trivial)]; rfl
  rw [this]; exact hS
def FQ (w : World) (x : FC) : Prop := ∃ d : ByteArray, d.size = x.n ∧ Sl w w.heap.size 1 x.A x.n (bytesC d)
theorem dat_of : ∀ (fs : List FC), (∀ x ∈ fs, FQ w x) → ∃ ds, DatAt w fs ds
  | [], _ => ⟨[], rfl, fun k x d h _ => by simp at h⟩
  | x :: t, h => by
    obtain ⟨ds, hd⟩ := dat_of t fun y hy => h y (List.mem_cons_of_mem _ hy)
    obtain ⟨d, h1, h2⟩ := h x (List.mem_cons_self ..)
    refine ⟨d :: ds, by rw [List.length_cons, List.length_cons, hd.len], fun k y e hy he => ?_⟩
    cases k with
    | zero => simp at hy he; subst hy he; exact ⟨h1, h2⟩
    | succ k => exact hd.at_ k y e (by simpa using hy) (by simpa using he)
end
end Go.Proofs.YtgeiegjpnnbloaaDoor
