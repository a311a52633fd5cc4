/- A map from strings to ints that the call owns, with the list of its keys; ranging over it. -/
import Derived.Test.YtdjlchbgdehccaaKit
import Derived.Maps.RangeWalk
namespace Go.Proofs.Ytdjlchbgdehccaa
open Go.RowKit Go.WideMaps Go.Maps

def KMk (w : World) (b n : Nat) (f : List UInt8 → Int) (ks : List (List UInt8)) : Prop :=
  ∃ D : DataW Unit, IsMap D ∧ w.ownsMap Try.prog 9 (plainElem Try.prog 3) b n D ∧ (∀ k : List UInt8, D.atKey (.string k) (.lit (.int .i64 0)) = .lit (.int .i64 (f k))) ∧ ks.Nodup ∧ ∀ k : List UInt8, has D (.string k) = decide (k ∈ ks)
theorem KMk.km {w : World} {b n : Nat} {f : List UInt8 → Int} {ks : List (List UInt8)} (h : KMk w b n f ks) : KM w b n f := by
  obtain ⟨D, h0, h1, h2, _⟩ := h
  exact ⟨D, h0, h1, h2⟩
theorem KMk.new (w : World) : KMk (w.alloc (.map #[] 0)) w.heap.size 0 (fun _ => 0) [] := ⟨.map [], ⟨_, rfl⟩, World.ownsMap_made _ _ _ _, fun _ => rfl, List.nodup_nil, fun _ => rfl⟩
theorem KMk.kept {w w' : World} {b n : Nat} {f : List UInt8 → Int} {ks : List (List UInt8)} {row : Option Nat} (h : KMk w b n f ks) (hg : w.grownBy w' row) (hne : some b ≠ row) : KMk w' b n f ks := by
  obtain ⟨D, h0, h1, h2⟩ := h
  exact ⟨D, h0, h1.kept hg hne, h2⟩
theorem KMk.lt {w : World} {b n : Nat} {f : List UInt8 → Int} {ks : List (List UInt8)} (h : KMk w b n f ks) : b < w.heap.size := h.km.lt
theorem KMk.look {w : World} {b n : Nat} {f : List UInt8 → Int} {ks : List (List UInt8)} (h : KMk w b n f ks) {s : ByteArray} (hs : s.size ≤ maxLen) :
    (Instr.lookup 74 (.map (some b)) (.string s) false).run Try.prog w = .ok (.int .i64 (f s.data.toList)) w := h.km.look hs
def addKey (ks : List (List UInt8)) (k : List UInt8) : List (List UInt8) := if k ∈ ks then ks else ks ++ [k]
theorem KMk.put {w : World} {b n : Nat} {f : List UInt8 → Int} {ks : List (List UInt8)} (h : KMk w b n f ks) {s : ByteArray} (hs : s.size ≤ maxLen) (hn : n < maxLen) {v : Int} (hv : (Lit.int .i64 v).wf = true) :
    ∃ w', (Instr.mapUpdate 74 (.map (some b)) (.string s) (.int .i64 v)).run Try.prog w = .ok () w' ∧ KMk w' b (n + 1) (fun k => if k = s.data.toList then v else f k) (addKey ks s.data.toList) ∧ w.grownBy w' (some b) := by
  obtain ⟨D, h0, h1, h2, h3, h4⟩ := h
  obtain ⟨w', hrun, ho, hg⟩ := h1.update Try.strKeyed Try.underlying74 hn (keyOf_string_mk Try.underlying9 hs) (plainElem_int (H := Unit) Try.underlying3 hv)
  refine ⟨w', hrun, ⟨_, IsMap.put h0 _ _, ho, fun k => ?_, ?_, fun k => ?_⟩, hg⟩
  · show _ = DataW.lit (Lit.int .i64 (if k = s.data.toList then v else f k))
    by_cases e : k = s.data.toList
    · rw [if_pos e, e, atKey_put_same h0 (by trivial)]
    · rw [if_neg e, atKey_put_other (by intro h; injection h with h; exact e h), h2]
  · unfold addKey
    split
    · exact h3
    · rename_i hni
      rw [List.nodup_append]
      exact ⟨h3, by simp, fun a ha b hb e => by rw [List.mem_singleton.1 hb] at e; exact hni (e ▸ ha)⟩
  · by_cases e : k = s.data.toList
    · rw [e, has_put_same h0 (by trivial)]
      unfold addKey
      split <;> simp_all
    · rw [has_put_other (by intro h; injection h with h; exact e h), h4]
      unfold addKey
      split
      · rfl
      · simp [e]
/-- The map under a range: what is still to come. -/
def KR (w : World) (b r n : Nat) (f : List UInt8 → Int) (todo : List (List UInt8)) (cnt : Nat) : Prop :=
  ∃ (D : DataW Unit) (left : Lit → Bool), w.ranges Try.prog 9 (plainElem Try.prog 3) b r n D left cnt ∧ (∀ k : List UInt8, D.atKey (.string k) (.lit (.int .i64 0)) = .lit (.int .i64 (f k))) ∧ todo.Nodup ∧ ∀ k : List UInt8, left (.string k) = decide (k ∈ todo)
theorem KR.kept {w w' : World} {b r n cnt : Nat} {f : List UInt8 → Int} {todo : List (List UInt8)} {row : Option Nat} (h : KR w b r n f todo cnt) (hg : w.grownBy w' row) (h1 : some b ≠ row) (h2 : some r ≠ row) : KR w' b r n f todo cnt := by
  obtain ⟨D, left, hr, h3⟩ := h
  exact ⟨D, left, hr.kept hg h1 h2, h3⟩
theorem KR.left_eq {w : World} {b r n cnt : Nat} {f : List UInt8 → Int} {todo : List (List UInt8)} (h : KR w b r n f todo cnt) : w.rangeLeft b r = cnt := by
  obtain ⟨D, left, hr, _⟩ := h
  exact hr.left_eq
theorem KR.lt {w : World} {b r n cnt : Nat} {f : List UInt8 → Int} {todo : List (List UInt8)} (h : KR w b r n f todo cnt) : r < w.heap.size := by
  obtain ⟨D, left, hr, _⟩ := h
  exact hr.lt
theorem str_inv {key : Value} {kl : Lit} (h : keyOf Try.prog 9 key = some kl) : ∃ s : ByteArray, key = .string s ∧ kl = .string s.data.toList := by
  rw [keyOf_string Try.underlying9] at h
  cases key <;> simp [mapKey, Try.underlying9] at h
  exact ⟨_, rfl, h.2.symm⟩
section
variable {ops : Array Oper} {rest : List Oper} {o : Oper} {a : Act} {Q : Exit → Act → World → Prop} {w : World}
theorem wpList_kr_range (hg : o.guard = none) (m : Operand) (hop : o.op = Op.range 74 m) {b n : Nat} {f : List UInt8 → Int} {ks : List (List UInt8)} (hm : a.eval m = .map (some b)) (h : KMk w b n f ks)
    (hK : ∀ w' cnt, KR w' b w.heap.size n f ks cnt → w.grownBy w' none → w'.heap.size = w.heap.size + 1 → wpList Try.prog ops Q rest (a.put o.dst (.pointer (some ⟨w.heap.size, 0, none⟩))) w') : wpList Try.prog ops Q (o :: rest) a w := by
  obtain ⟨D, h0, h1, h2, h3, h4⟩ := h
  exact wpList_range_own w hg m _ hop 9 3 Try.strKeyed Try.underlying74 _ b n D hm h1 fun w' hr hgr hsz => hK w' _ ⟨D, _, hr, h2, h3, h4⟩ hgr hsz
theorem wpList_kr_next (hg : o.guard = none) (it : Operand) (hop : o.op = Op.next it false) {b r n cnt : Nat} {f : List UInt8 → Int} {todo : List (List UInt8)} (hit : a.eval it = .pointer (some ⟨r, 0, none⟩)) (h : KR w b r n f todo cnt)
    (hDone : todo = [] → wpList Try.prog ops Q rest (a.put o.dst (.tuple #[.bool false])) w)
    (hMore : ∀ (s : ByteArray) (w' : World) (cnt' : Nat), s.data.toList ∈ todo → KR w' b r n f (todo.erase s.data.toList) cnt' → cnt' < cnt → w.grownBy w' (some r) → w'.heap.size = w.heap.size →
      (Instr.entry (.pointer (some ⟨r, 0, none⟩))).run Try.prog w' = .ok (.tuple #[.string s, .int .i64 (f s.data.toList)]) w' → wpList Try.prog ops Q rest (a.put o.dst (.tuple #[.bool true, .string s, .int .i64 (f s.data.toList)])) w') :
    wpList Try.prog ops Q (o :: rest) a w := by
  obtain ⟨D, left, hr, h2, h3, h4⟩ := h
  refine wpList_next_ranges w hg it hop 9 Try.strKeyed (plainElem Try.prog 3) Value.string (Value.int .i64) (fun key kl hkey => by obtain ⟨x, rfl, _⟩ := str_inv hkey; exact ⟨x, rfl⟩) (fun v y hv => by obtain ⟨c, rfl, _⟩ := plainElem_int_inv Try.underlying3 hv; exact ⟨c, rfl⟩)
    b r n D left cnt hit hr (fun _ hl => hDone ?_) ?_
  · cases htd : todo with
    | nil => rfl
    | cons k t =>
      have := h4 k
      rw [hl, htd] at this
      simp at this
  · intro s c kl y w' cnt' hkey hlk hv hat hrg hlt hgr hsz hen
    obtain ⟨s', es, rfl⟩ := str_inv hkey
    cases es
    obtain ⟨c', ec, rfl, _⟩ := plainElem_int_inv Try.underlying3 hv
    cases ec
    have hf : f s.data.toList = c := by
      have h1 := h2 s.data.toList
      rw [hat] at h1
      simp only [DataW.lit.injEq, Lit.int.injEq, true_and] at h1
      exact h1.symm
    have hmem : s.data.toList ∈ todo := by have := h4 s.data.toList; rw [hlk] at this; simpa using this.symm
    rw [← hf] at hen ⊢
    refine hMore s w' cnt' hmem ⟨D, _, hrg, h2, h3.erase _, fun k => ?_⟩ hlt hgr hsz hen
    by_cases e : k = s.data.toList
    · subst e
      rw [WideAt.sameKey_self (by trivial)]
      simp [List.Nodup.mem_erase_iff h3]
    · rw [sameKey_ne (by intro h; injection h with h; exact e h), h4]
      simp [List.Nodup.mem_erase_iff h3, e]
end
end Go.Proofs.Ytdjlchbgdehccaa
