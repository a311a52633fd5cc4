/- The library contract of slices.Sort at strings, laid at this program. slices.Sort of a row of strings that the call owns. -/
import Derived.Test.YthmeffpickejkaaRows
import Derived.Test.YthmeffpickejkaaRef5
import Derived.Shelf.Sort.Plain
import Derived.Shelf.Slices.In.SortNone
import Derived.Sort.OwnSorted

namespace Go.Proofs.Ythmeffpickejkaa
open Go.Shelf
def Try.lays190_ren : Go.Shelf.Ren := ⟨fun | 190 => 64 | 125 => 88 | 258 => 87 | 128 => 107 | 129 => 108 | 302 => 98 | 303 => 99 | 304 => 100 | 305 => 101 | 306 => 102 | 307 => 103 | 308 => 104 | 309 => 105 | 310 => 106 | 333 => 111 | 329 => 112 | 330 => 113 | 334 => 114 | 335 => 115 | 336 => 116 | 344 => 117 | n => n, fun | 31 => 53 | 9 => 9 | 3 => 3 | 46 => 130 | 0 => 0 | 51 => 149 | 53 => 151 | 4 => 4 | 183 => 142 | 182 => 141 | 131 => 118 | 5 => 5 | 218 => 154 | 222 => 158 | 228 => 160 | 229 => 84 | n => n, fun | n => n⟩
theorem Try.lays190 : Go.Proofs.Lays.n190 Try.prog Try.lays190_ren := {
  mixed := by kernel_rfl
  f125 := Try.func88.trans (congrArg some (by kernel_rfl))
  f128 := Try.func107.trans (congrArg some (by kernel_rfl))
  f129 := Try.func108.trans (congrArg some (by kernel_rfl))
  f190 := Try.func64.trans (congrArg some (by kernel_rfl))
  f258 := Try.func87.trans (congrArg some (by kernel_rfl))
  f302 := Try.func98.trans (congrArg some (by kernel_rfl))
  f303 := Try.func99.trans (congrArg some (by kernel_rfl))
  f304 := Try.func100.trans (congrArg some (by kernel_rfl))
  f305 := Try.func101.trans (congrArg some (by kernel_rfl))
  f306 := Try.func102.trans (congrArg some (by kernel_rfl))
  f307 := Try.func103.trans (congrArg some (by kernel_rfl))
  f308 := Try.func104.trans (congrArg some (by kernel_rfl))
  f309 := Try.func105.trans (congrArg some (by kernel_rfl))
  f310 := Try.func106.trans (congrArg some (by kernel_rfl))
  f329 := Try.func112.trans (congrArg some (by kernel_rfl))
  f330 := Try.func113.trans (congrArg some (by kernel_rfl))
  f333 := Try.func111.trans (congrArg some (by kernel_rfl))
  f334 := Try.func114.trans (congrArg some (by kernel_rfl))
  f335 := Try.func115.trans (congrArg some (by kernel_rfl))
  f336 := Try.func116.trans (congrArg some (by kernel_rfl))
  f344 := Try.func117.trans (congrArg some (by kernel_rfl))
  t0 := Try.underlying0
  a0 := Try.isAgg0
  z0 := Try.sizeOf0
  v0 := Try.zeroValue0
  t3 := Try.underlying3
  a3 := Try.isAgg3
  z3 := Try.sizeOf3
  v3 := Try.zeroValue3
  t4 := Try.underlying4
  a4 := Try.isAgg4
  z4 := Try.sizeOf4
  v4 := Try.zeroValue4
  t5 := Try.underlying5
  a5 := Try.isAgg5
  z5 := Try.sizeOf5
  v5 := Try.zeroValue5
  t9 := Try.underlying9
  a9 := Try.isAgg9
  z9 := Try.sizeOf9
  v9 := Try.zeroValue9
  t31 := Try.underlying53
  a31 := Try.isAgg53
  z31 := Try.sizeOf53
  v31 := Try.zeroValue53
  t46 := Try.underlying130
  a46 := Try.isAgg130
  z46 := Try.sizeOf130
  v46 := Try.zeroValue130
  t51 := Try.underlying149
  a51 := Try.isAgg149
  z51 := Try.sizeOf149
  v51 := Try.zeroValue149
  t53 := Try.underlying151
  a53 := Try.isAgg151
  z53 := Try.sizeOf151
  v53 := Try.zeroValue151
  t131 := Try.underlying118
  a131 := Try.isAgg118
  z131 := Try.sizeOf118
  v131 := Try.zeroValue118
  t182 := Try.underlying141
  a182 := Try.isAgg141
  z182 := Try.sizeOf141
  v182 := Try.zeroValue141
  t183 := Try.underlying142
  a183 := Try.isAgg142
  z183 := Try.sizeOf142
  v183 := Try.zeroValue142
  t218 := Try.underlying154
  a218 := Try.isAgg154
  z218 := Try.sizeOf154
  v218 := Try.zeroValue154
  t222 := Try.underlying158
  a222 := Try.isAgg158
  z222 := Try.sizeOf158
  v222 := Try.zeroValue158
  t228 := Try.underlying160
  a228 := Try.isAgg160
  z228 := Try.sizeOf160
  v228 := Try.zeroValue160
  t229 := Try.underlying84
  a229 := Try.isAgg84
  z229 := Try.sizeOf84
  v229 := Try.zeroValue84 }
open Go.Sort Go.RowKit in
theorem Try.slices_Sort_string (blk off cap : Nat) (ss : List (List UInt8)) (w : World) (hH : Holds encStr w blk off ss.toArray) (hblk : blk < w.heap.size) (hsz : ss.length < 4611686018427387904) :
    Calls Try.prog 64 #[.slice (some ⟨blk, off, none⟩) ss.length cap] w fun e w' =>
      e = .returned (.tuple #[]) ∧ ∃ n os, w' = grow (putRow encStr (Sort.ahead w n) blk off (ss.mergeSort fun x y => decide (x ≤ y)).toArray) os := Any.slices_Sort_string Try.lays190 blk off cap ss w hH hblk hsz
open Go.RowKit Go.Sort in
/-- .. and plain. (LAID: no walk: one application.) -/
theorem Try.slices_Sort_string_none (p : Option Addr) (cap : Nat) (w : World) :
    Calls Try.prog 64 #[.slice p 0 cap] w fun e w' => e = .returned (.tuple #[]) ∧ w' = w := Any.slices_Sort_string_none Try.lays190 p cap w
end Go.Proofs.Ythmeffpickejkaa

namespace Go.Proofs.Ythmeffpickejkaa
open Go.RowKit Go.Sort

theorem strOf_enc (ps : List ByteArray) : ps.flatMap strOf = (datas ps).map encStr := by
  induction ps with
  | nil => rfl
  | cons p t ih =>
    rw [List.flatMap_cons, ih]
    rfl
def baOf (l : List UInt8) : ByteArray := ⟨l.toArray⟩
theorem datas_baOf (ls : List (List UInt8)) : datas (ls.map baOf) = ls := by
  induction ls with
  | nil => rfl
  | cons l t ih => simp only [datas, List.map_cons, List.map_map] at ih ⊢; rw [ih]; rfl
theorem baOf_datas (ps : List ByteArray) : (datas ps).map baOf = ps := by
  induction ps with
  | nil => rfl
  | cons l t ih => simp only [datas, List.map_cons] at ih ⊢; rw [ih]; rfl
def SortRes (base : Nat) (A : Option Addr) (n c : Nat) (ps : List ByteArray) (w : World) (e : Ending) (w' : World) : Prop :=
  e = .returned (.tuple #[]) ∧ ∃ qs : List ByteArray, qs.Perm ps ∧ qs.Pairwise (fun a b => a.data.toList ≤ b.data.toList) ∧ w'.ownsRow base 9 1 (.slice A n c) n (qs.flatMap strOf) ∧ w.grownBy w' (blkOf A)
theorem sort_own (base : Nat) (A : Option Addr) (n c : Nat) (ps : List ByteArray) (w : World) (hl : ps.length = n) (hn : n < 4611686018427387904) (ho : w.ownsRow base 9 1 (.slice A n c) n (ps.flatMap strOf)) :
    Calls Try.prog 64 #[.slice A n c] w (SortRes base A n c ps w) := by
  rcases ho.2 with ⟨hv, h0⟩ | ⟨g, cap, cur, hv, hg, hh, hnc, hcm, hcs, ht⟩
  · injection hv with hA hn2 hc2
    subst hA hc2 hn2
    have : ps = [] := List.eq_nil_of_length_eq_zero hl
    subst this
    exact (Try.slices_Sort_string_none none 0 w).mono fun e w' ⟨h1, h2⟩ => ⟨h1, [], List.Perm.refl _, List.Pairwise.nil, by rw [h2]; exact ho, by rw [h2]; exact ⟨rfl, rfl, rfl, Nat.le_refl _, fun _ _ _ => rfl⟩⟩
  · injection hv with hA _ hc2
    subst hA hc2
    have hlen : (datas ps).length = n := by rw [datas_length, hl]
    have ht2 : cur.toList.take (datas ps).length = (datas ps).map encStr := by rw [hlen]; rw [strOf_enc] at ht; rw [← ht, Nat.mul_one]
    have := Try.slices_Sort_string g 0 c (datas ps) w (holds_of_block hh ht2) (Array.getElem?_eq_some_iff.1 hh).1 (by rw [hlen]; exact hn)
    rw [hlen] at this
    refine this.mono fun e w' ⟨h1, m, os, h2⟩ => ⟨h1, ((datas ps).mergeSort fun x y => decide (x ≤ y)).map baOf, ?_, ?_, ?_, ?_⟩
    · have h3 : ((datas ps).mergeSort fun x y => decide (x ≤ y)).Perm (datas ps) := List.mergeSort_perm _ _
      have h4 := h3.map baOf
      rwa [baOf_datas] at h4
    · have h3 : ((datas ps).mergeSort fun x y => decide (x ≤ y)).Pairwise fun a b => decide (a ≤ b) = true :=
        List.pairwise_mergeSort (fun a b c h1 h2 => by simp only [decide_eq_true_eq] at *; exact List.le_trans h1 h2) (fun a b => by simp only [Bool.or_eq_true, decide_eq_true_eq]; exact List.le_total a b) _
      rw [List.pairwise_map]
      exact h3.imp fun {a b} h => by simpa [baOf] using h
    · subst h2
      have hml : ((datas ps).mergeSort fun x y => decide (x ≤ y)).length = (datas ps).length := List.length_mergeSort _
      have := ownsRow_sorted (w := w) (n := m) (os := os) (ts := (datas ps).mergeSort fun x y => decide (x ≤ y)) (ss := datas ps) hml hg hh (by rw [hlen]; exact hnc) hcm hcs
      rw [hlen] at this
      rw [strOf_enc, datas_baOf]
      exact this
    · subst h2
      exact grownBy_sorted _
end Go.Proofs.Ythmeffpickejkaa
