/- The library contract of slices.Sort at strings, laid at this program. slices.Sort of a row of strings that the call owns. -/
import Derived.Test.YtanaccoelifcpaaRows
import Derived.Test.YtanaccoelifcpaaRef5
import Derived.Shelf.Sort.Plain
import Derived.Shelf.Slices.In.SortNone
import Derived.Sort.OwnSorted

namespace Go.Proofs.Ytanaccoelifcpaa
open Go.Shelf
def Try.lays190_ren : Go.Shelf.Ren := ⟨fun | 190 => 21 | 125 => 44 | 258 => 43 | 128 => 68 | 129 => 69 | 302 => 59 | 303 => 60 | 304 => 61 | 305 => 62 | 306 => 63 | 307 => 64 | 308 => 65 | 309 => 66 | 310 => 67 | 333 => 78 | 329 => 79 | 330 => 80 | 334 => 81 | 335 => 82 | 336 => 83 | 344 => 86 | n => n, fun | 31 => 66 | 9 => 9 | 3 => 3 | 46 => 97 | 0 => 0 | 51 => 114 | 53 => 116 | 4 => 4 | 183 => 107 | 182 => 106 | 131 => 76 | 5 => 5 | 218 => 125 | 222 => 129 | 228 => 133 | 229 => 134 | n => n, fun | n => n⟩
theorem Try.lays190 : Go.Proofs.Lays.n190 Try.prog Try.lays190_ren := {
  mixed := by kernel_rfl
  f125 := Try.func44.trans (congrArg some (by kernel_rfl))
  f128 := Try.func68.trans (congrArg some (by kernel_rfl))
  f129 := Try.func69.trans (congrArg some (by kernel_rfl))
  f190 := Try.func21.trans (congrArg some (by kernel_rfl))
  f258 := Try.func43.trans (congrArg some (by kernel_rfl))
  f302 := Try.func59.trans (congrArg some (by kernel_rfl))
  f303 := Try.func60.trans (congrArg some (by kernel_rfl))
  f304 := Try.func61.trans (congrArg some (by kernel_rfl))
  f305 := Try.func62.trans (congrArg some (by kernel_rfl))
  f306 := Try.func63.trans (congrArg some (by kernel_rfl))
  f307 := Try.func64.trans (congrArg some (by kernel_rfl))
  f308 := Try.func65.trans (congrArg some (by kernel_rfl))
  f309 := Try.func66.trans (congrArg some (by kernel_rfl))
  f310 := Try.func67.trans (congrArg some (by kernel_rfl))
  f329 := Try.func79.trans (congrArg some (by kernel_rfl))
  f330 := Try.func80.trans (congrArg some (by kernel_rfl))
  f333 := Try.func78.trans (congrArg some (by kernel_rfl))
  f334 := Try.func81.trans (congrArg some (by kernel_rfl))
  f335 := Try.func82.trans (congrArg some (by kernel_rfl))
  f336 := Try.func83.trans (congrArg some (by kernel_rfl))
  f344 := Try.func86.trans (congrArg some (by kernel_rfl))
  t0 := Try.underlying0
  a0 := Try.isAgg0
  z0 := Try.sizeOf0
  v0 := Try.zeroValue0
  t3 := Try.underlying3
  a3 := Try.isAgg3
  z3 := Try.sizeOf3
  v3 := Try.zeroValue3
  t4 := Try.underlying4
  a4 := Try.isAgg4
  z4 := Try.sizeOf4
  v4 := Try.zeroValue4
  t5 := Try.underlying5
  a5 := Try.isAgg5
  z5 := Try.sizeOf5
  v5 := Try.zeroValue5
  t9 := Try.underlying9
  a9 := Try.isAgg9
  z9 := Try.sizeOf9
  v9 := Try.zeroValue9
  t31 := Try.underlying66
  a31 := Try.isAgg66
  z31 := Try.sizeOf66
  v31 := Try.zeroValue66
  t46 := Try.underlying97
  a46 := Try.isAgg97
  z46 := Try.sizeOf97
  v46 := Try.zeroValue97
  t51 := Try.underlying114
  a51 := Try.isAgg114
  z51 := Try.sizeOf114
  v51 := Try.zeroValue114
  t53 := Try.underlying116
  a53 := Try.isAgg116
  z53 := Try.sizeOf116
  v53 := Try.zeroValue116
  t131 := Try.underlying76
  a131 := Try.isAgg76
  z131 := Try.sizeOf76
  v131 := Try.zeroValue76
  t182 := Try.underlying106
  a182 := Try.isAgg106
  z182 := Try.sizeOf106
  v182 := Try.zeroValue106
  t183 := Try.underlying107
  a183 := Try.isAgg107
  z183 := Try.sizeOf107
  v183 := Try.zeroValue107
  t218 := Try.underlying125
  a218 := Try.isAgg125
  z218 := Try.sizeOf125
  v218 := Try.zeroValue125
  t222 := Try.underlying129
  a222 := Try.isAgg129
  z222 := Try.sizeOf129
  v222 := Try.zeroValue129
  t228 := Try.underlying133
  a228 := Try.isAgg133
  z228 := Try.sizeOf133
  v228 := Try.zeroValue133
  t229 := Try.underlying134
  a229 := Try.isAgg134
  z229 := Try.sizeOf134
  v229 := Try.zeroValue134 }
open Go.Sort Go.RowKit in
theorem Try.slices_Sort_string (blk off cap : Nat) (ss : List (List UInt8)) (w : World) (hH : Holds encStr w blk off ss.toArray) (hblk : blk < w.heap.size) (hsz : ss.length < 4611686018427387904) :
    Calls Try.prog 21 #[.slice (some ⟨blk, off, none⟩) ss.length cap] w fun e w' =>
      e = .returned (.tuple #[]) ∧ ∃ n os, w' = grow (putRow encStr (Sort.ahead w n) blk off (ss.mergeSort fun x y => decide (x ≤ y)).toArray) os := Any.slices_Sort_string Try.lays190 blk off cap ss w hH hblk hsz
open Go.RowKit Go.Sort in
/-- .. and plain. (LAID: no walk: one application.) -/
theorem Try.slices_Sort_string_none (p : Option Addr) (cap : Nat) (w : World) :
    Calls Try.prog 21 #[.slice p 0 cap] w fun e w' => e = .returned (.tuple #[]) ∧ w' = w := Any.slices_Sort_string_none Try.lays190 p cap w
end Go.Proofs.Ytanaccoelifcpaa

namespace Go.Proofs.Ytanaccoelifcpaa
open Go.RowKit Go.Sort

theorem strOf_enc (ps : List ByteArray) : ps.flatMap strOf = (datas ps).map encStr := by
  induction ps with
  | nil => rfl
  | cons p t ih =>
    rw [List.flatMap_cons, ih]
    rfl
def baOf (l : List UInt8) : ByteArray := ⟨l.toArray⟩
theorem datas_baOf (ls : List (List UInt8)) : datas (ls.map baOf) = ls := by
  induction ls with
  | nil => rfl
  | cons l t ih => simp only [datas, List.map_cons, List.map_map] at ih ⊢; rw [ih]; rfl
theorem baOf_datas (ps : List ByteArray) : (datas ps).map baOf = ps := by
  induction ps with
  | nil => rfl
  | cons l t ih => simp only [datas, List.map_cons] at ih ⊢; rw [ih]; rfl
def SortRes (base : Nat) (A : Option Addr) (n c : Nat) (ps : List ByteArray) (w : World) (e : Ending) (w' : World) : Prop :=
  e = .returned (.tuple #[]) ∧ ∃ qs : List ByteArray, qs.Perm ps ∧ qs.Pairwise (fun a b => a.data.toList ≤ b.data.toList) ∧ w'.ownsRow base 9 1 (.slice A n c) n (qs.flatMap strOf) ∧ w.grownBy w' (blkOf A)
theorem sort_own (base : Nat) (A : Option Addr) (n c : Nat) (ps : List ByteArray) (w : World) (hl : ps.length = n) (hn : n < 4611686018427387904) (ho : w.ownsRow base 9 1 (.slice A n c) n (ps.flatMap strOf)) :
    Calls Try.prog 21 #[.slice A n c] w (SortRes base A n c ps w) := by
  rcases ho.2 with ⟨hv, h0⟩ | ⟨g, cap, cur, hv, hg, hh, hnc, hcm, hcs, ht⟩
  · injection hv with hA hn2 hc2
    subst hA hc2 hn2
    have : ps = [] := List.eq_nil_of_length_eq_zero hl
    subst this
    exact (Try.slices_Sort_string_none none 0 w).mono fun e w' ⟨h1, h2⟩ => ⟨h1, [], List.Perm.refl _, List.Pairwise.nil, by rw [h2]; exact ho, by rw [h2]; exact ⟨rfl, rfl, rfl, Nat.le_refl _, fun _ _ _ => rfl⟩⟩
  · injection hv with hA _ hc2
    subst hA hc2
    have hlen : (datas ps).length = n := by rw [datas_length, hl]
    have ht2 : cur.toList.take (datas ps).length = (datas ps).map encStr := by rw [hlen]; rw [strOf_enc] at ht; rw [← ht, Nat.mul_one]
    have := Try.slices_Sort_string g 0 c (datas ps) w (holds_of_block hh ht2) (Array.getElem?_eq_some_iff.1 hh).1 (by rw [hlen]; exact hn)
    rw [hlen] at this
    refine this.mono fun e w' ⟨h1, m, os, h2⟩ => ⟨h1, ((datas ps).mergeSort fun x y => decide (x ≤ y)).map baOf, ?_, ?_, ?_, ?_⟩
    · have h3 : ((datas ps).mergeSort fun x y => decide (x ≤ y)).Perm (datas ps) := List.mergeSort_perm _ _
      have h4 := h3.map baOf
      rwa [baOf_datas] at h4
    · have h3 : ((datas ps).mergeSort fun x y => decide (x ≤ y)).Pairwise fun a b => decide (a ≤ b) = true :=
        List.pairwise_mergeSort (fun a b c h1 h2 => by simp only [decide_eq_true_eq] at *; exact List.le_trans h1 h2) (fun a b => by simp only [Bool.or_eq_true, decide_eq_true_eq]; exact List.le_total a b) _
      rw [List.pairwise_map]
      exact h3.imp fun {a b} h => by simpa [baOf] using h
    · subst h2
      have hml : ((datas ps).mergeSort fun x y => decide (x ≤ y)).length = (datas ps).length := List.length_mergeSort _
      have := ownsRow_sorted (w := w) (n := m) (os := os) (ts := (datas ps).mergeSort fun x y => decide (x ≤ y)) (ss := datas ps) hml hg hh (by rw [hlen]; exact hnc) hcm hcs
      rw [hlen] at this
      rw [strOf_enc, datas_baOf]
      exact this
    · subst h2
      exact grownBy_sorted _
end Go.Proofs.Ytanaccoelifcpaa
