/- match.Match's closure take: a file of s is taken for a file of t. -/
import Derived.Test.YtcnpncieibmngaaMatchM
namespace Go.Proofs.Ytcnpncieibmngaa
open Go.RowKit

theorem numC_get {l : List Nat} {k x : Nat} (h : l[k]? = some x) : (numC l)[k]? = some (.int .i64 x) := by simp [numC, h]
set_option maxRecDepth 100000 in
set_option maxHeartbeats 4000000 in
theorem take_no (C : MC) (W : World) (out : List Src) (F : ByteArray → List Nat) (h : MM1 C W out F) (i : Int) (b : ByteArray) (hb : b.size ≤ maxLen) (f : Nat) (hf : f ∉ F b) (hl : (F b).length ≤ 1000000) :
    Calls Try.prog 34 #[.int .i64 i, .string b, .int .i64 f, .pointer (some ⟨C.fx, 0, none⟩), .pointer (some ⟨C.ox, 0, none⟩)] W fun e w' => e = .returned (.bool false) ∧ w' = W := by
  obtain ⟨es, hM, hes, hE⟩ := h.fM
  obtain ⟨A, c, hlk, hown⟩ := hE.look b
  have hok : strK.ok b := hb
  have f0 := h.fB.cell 0
  obtain ⟨l, hl2⟩ : ∃ l, F b = l := ⟨_, rfl⟩
  rw [hl2] at hlk hown hf hl
  have HM := Lib.hid hM; have HLK := Lib.hid hlk; have HOwn := Lib.hid hown; have HF := Lib.hid hf
  clear hM hlk hown hf hl2 hE h hes
  go_enter Try.func34, Try.ntmps34
  go_wp2_with (refine wpList_mv_look rfl Try.mtNums _ _ rfl rfl HM.out (T := strK) (q := b) rfl hok HLK.out ?_)
  go_loopw [9, 10, 15] (fun v9 v10 i wr => ∃ k : Nat, k ≤ l.length ∧ i = .int .i64 k ∧ wr = W) (fun _ _ i _ => l.length - (intOf i).toNat)
  case atStart => exact ⟨0, Nat.zero_le _, rfl, rfl⟩
  case round =>
    obtain ⟨k, hk, rfl, rfl⟩ := hrel
    by_cases hlt : k < l.length
    · have hki : (k : Int) < l.length := by omega
      obtain ⟨g, rfl⟩ := own_some' HOwn.out (by omega)
      obtain ⟨x, hx⟩ : ∃ x, l[k]? = some x := ⟨_, List.getElem?_eq_getElem hlt⟩
      have c0 := (own_row HOwn.out).1 k _ (numC_get hx)
      rw [Nat.zero_add] at c0
      have hxf : x ≠ f := fun e => HF.out (e ▸ List.mem_of_getElem? hx)
      have hne : ((x : Int) == f) = false := beq_eq_false_iff_ne.2 fun e => hxf (by omega)
      clear hx
      go_wp2
      go_roundw
      case rel => exact ⟨k + 1, by omega, by go_num, by first | rfl | trivial⟩
      case measure => simp [intOf]; omega
    · obtain rfl : k = l.length := by omega
      have hki : ¬ (l.length : Int) < l.length := by omega
      go_wp2
      go_ret
      exact ⟨rfl, rfl⟩
def upd (F : ByteArray → List Nat) (b : ByteArray) (l : List Nat) : ByteArray → List Nat := fun c => if c = b then l else F c
/-- A list that is put into a row of its own, for one content. -/
theorem FreeE.put {W W' : World} {base : Nat} {es : List (ByteArray × Value)} {F : ByteArray → List Nat} (h : FreeE W base es F) (hn : (keysV es).Nodup) {row : Option Nat} (hg : W.grownBy W' row) {A : Option Addr} {n c : Nat} {b : ByteArray} {l : List Nat} (hl : l.length = n) (hne : l ≠ [])
    (ho : W'.ownsRow base 3 1 (.slice A n c) n (numC l)) (hrow : ∀ b' A' n' c' g, b' ≠ b → getV es b' = some (.slice A' n' c') → blkOf A' = some g → some g ≠ row)
    (hA : ∀ g, blkOf A = some g → W.heap.size ≤ g ∨ (∃ A' n' c', getV es b = some (.slice A' n' c') ∧ blkOf A' = some g)) : FreeE W' base (putV es b (.slice A n c)) (upd F b l) := by
  have key : ∀ d A' n' c' g, d ≠ b → getV es d = some (.slice A' n' c') → blkOf A' = some g → blkOf A ≠ some g := fun d A' n' c' g hd hg' hb' e => by
    rcases hA g e with h1 | ⟨A2, n2, c2, h1, h2⟩
    · have := (h.row_lt hg' hb').1; omega
    · exact h.apart d b A' A2 n' n2 c' c2 g hd hg' h1 hb' h2
  refine ⟨fun d hd => ?_, fun d hd => ?_, fun d d' A1 A2 n1 n2 c1 c2 g hdd h1 h2 hg1 hg2 => ?_⟩
  · unfold upd at hd
    split at hd
    · exact absurd hd hne
    · rename_i e
      rw [putV_get hn, if_neg e]
      exact h.no d hd
  · unfold upd at hd ⊢
    by_cases e : d = b
    · subst e
      simp only [if_true]
      rw [putV_get hn, if_pos rfl]
      subst hl
      exact ⟨A, c, rfl, ho⟩
    · simp only [if_neg e] at hd ⊢
      obtain ⟨A', c', h1, h2⟩ := h.yes d hd
      rw [putV_get hn, if_neg e]
      exact ⟨A', c', h1, own_keep h2 fun g o e2 => hg.block g (h.row_lt h1 (by rw [e2]; rfl)).1 (hrow d A' _ c' g e h1 (by rw [e2]; rfl))⟩
  · rw [putV_get hn] at h1 h2
    by_cases e1 : d = b <;> by_cases e2 : d' = b
    · exact hdd (e1.trans e2.symm)
    · rw [if_pos e1] at h1
      rw [if_neg e2] at h2
      injection h1 with h1
      injection h1 with h1
      subst h1
      exact key d' A2 n2 c2 g e2 h2 hg2 hg1
    · rw [if_neg e1] at h1
      rw [if_pos e2] at h2
      injection h2 with h2
      injection h2 with h2
      subst h2
      exact key d A1 n1 c1 g e1 h1 hg1 hg2
    · rw [if_neg e1] at h1
      rw [if_neg e2] at h2
      exact h.apart d d' A1 A2 n1 n2 c1 c2 g hdd h1 h2 hg1 hg2
theorem FreeE.del {W W' : World} {base : Nat} {es es' : List (ByteArray × Value)} {F : ByteArray → List Nat} {b : ByteArray} (h : FreeE W base es F) (hk : ∀ d A n c g, d ≠ b → getV es d = some (.slice A n c) → blkOf A = some g → W'.heap[g]? = W.heap[g]?) (hg : ∀ d, getV es' d = if d = b then none else getV es d) : FreeE W' base es' (upd F b []) := by
  refine ⟨fun d hd => ?_, fun d hd => ?_, fun d d' A1 A2 n1 n2 c1 c2 g hdd h1 h2 hg1 hg2 => ?_⟩
  · rw [hg]
    split
    · rfl
    · rename_i e
      unfold upd at hd
      rw [if_neg e] at hd
      exact h.no d hd
  · unfold upd at hd ⊢
    by_cases e : d = b
    · rw [if_pos e] at hd; exact absurd rfl hd
    · simp only [if_neg e] at hd ⊢
      obtain ⟨A', c', h1, h2⟩ := h.yes d hd
      rw [hg, if_neg e]
      exact ⟨A', c', h1, own_keep h2 fun g o e2 => hk d A' _ c' g e h1 (by rw [e2]; rfl)⟩
  · rw [hg] at h1 h2
    split at h1
    · cases h1
    · split at h2
      · cases h2
      · exact h.apart d d' A1 A2 n1 n2 c1 c2 g hdd h1 h2 hg1 hg2
end Go.Proofs.Ytcnpncieibmngaa
