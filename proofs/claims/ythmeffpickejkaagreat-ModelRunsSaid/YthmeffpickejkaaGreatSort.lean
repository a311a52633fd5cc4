/- The library contract of slices.Sort at strings, laid at this program. slices.Sort of a row of strings that the call owns. -/
import Derived.Test.YthmeffpickejkaaGreatRows
import Derived.Test.YthmeffpickejkaaGreatRef5
import Derived.Shelf.Sort.Plain
import Derived.Shelf.Slices.In.SortNone
import Derived.Sort.OwnSorted

namespace Go.Proofs.YthmeffpickejkaaGreat
open Go.Shelf
def Tryz.lays190_ren : Go.Shelf.Ren := ⟨fun | 190 => 34 | 125 => 57 | 258 => 56 | 128 => 89 | 129 => 90 | 302 => 80 | 303 => 81 | 304 => 82 | 305 => 83 | 306 => 84 | 307 => 85 | 308 => 86 | 309 => 87 | 310 => 88 | 333 => 102 | 329 => 103 | 330 => 104 | 334 => 105 | 335 => 106 | 336 => 107 | 344 => 110 | n => n, fun | 31 => 75 | 9 => 9 | 3 => 3 | 46 => 118 | 0 => 0 | 51 => 137 | 53 => 139 | 4 => 4 | 183 => 130 | 182 => 129 | 131 => 90 | 5 => 5 | 218 => 150 | 222 => 154 | 228 => 158 | 229 => 100 | n => n, fun | n => n⟩
theorem Tryz.lays190 : Go.Proofs.Lays.n190 Tryz.prog Tryz.lays190_ren := {
  mixed := by kernel_rfl
  f125 := Tryz.func57.trans (congrArg some (by kernel_rfl))
  f128 := Tryz.func89.trans (congrArg some (by kernel_rfl))
  f129 := Tryz.func90.trans (congrArg some (by kernel_rfl))
  f190 := Tryz.func34.trans (congrArg some (by kernel_rfl))
  f258 := Tryz.func56.trans (congrArg some (by kernel_rfl))
  f302 := Tryz.func80.trans (congrArg some (by kernel_rfl))
  f303 := Tryz.func81.trans (congrArg some (by kernel_rfl))
  f304 := Tryz.func82.trans (congrArg some (by kernel_rfl))
  f305 := Tryz.func83.trans (congrArg some (by kernel_rfl))
  f306 := Tryz.func84.trans (congrArg some (by kernel_rfl))
  f307 := Tryz.func85.trans (congrArg some (by kernel_rfl))
  f308 := Tryz.func86.trans (congrArg some (by kernel_rfl))
  f309 := Tryz.func87.trans (congrArg some (by kernel_rfl))
  f310 := Tryz.func88.trans (congrArg some (by kernel_rfl))
  f329 := Tryz.func103.trans (congrArg some (by kernel_rfl))
  f330 := Tryz.func104.trans (congrArg some (by kernel_rfl))
  f333 := Tryz.func102.trans (congrArg some (by kernel_rfl))
  f334 := Tryz.func105.trans (congrArg some (by kernel_rfl))
  f335 := Tryz.func106.trans (congrArg some (by kernel_rfl))
  f336 := Tryz.func107.trans (congrArg some (by kernel_rfl))
  f344 := Tryz.func110.trans (congrArg some (by kernel_rfl))
  t0 := Tryz.underlying0
  a0 := Tryz.isAgg0
  z0 := Tryz.sizeOf0
  v0 := Tryz.zeroValue0
  t3 := Tryz.underlying3
  a3 := Tryz.isAgg3
  z3 := Tryz.sizeOf3
  v3 := Tryz.zeroValue3
  t4 := Tryz.underlying4
  a4 := Tryz.isAgg4
  z4 := Tryz.sizeOf4
  v4 := Tryz.zeroValue4
  t5 := Tryz.underlying5
  a5 := Tryz.isAgg5
  z5 := Tryz.sizeOf5
  v5 := Tryz.zeroValue5
  t9 := Tryz.underlying9
  a9 := Tryz.isAgg9
  z9 := Tryz.sizeOf9
  v9 := Tryz.zeroValue9
  t31 := Tryz.underlying75
  a31 := Tryz.isAgg75
  z31 := Tryz.sizeOf75
  v31 := Tryz.zeroValue75
  t46 := Tryz.underlying118
  a46 := Tryz.isAgg118
  z46 := Tryz.sizeOf118
  v46 := Tryz.zeroValue118
  t51 := Tryz.underlying137
  a51 := Tryz.isAgg137
  z51 := Tryz.sizeOf137
  v51 := Tryz.zeroValue137
  t53 := Tryz.underlying139
  a53 := Tryz.isAgg139
  z53 := Tryz.sizeOf139
  v53 := Tryz.zeroValue139
  t131 := Tryz.underlying90
  a131 := Tryz.isAgg90
  z131 := Tryz.sizeOf90
  v131 := Tryz.zeroValue90
  t182 := Tryz.underlying129
  a182 := Tryz.isAgg129
  z182 := Tryz.sizeOf129
  v182 := Tryz.zeroValue129
  t183 := Tryz.underlying130
  a183 := Tryz.isAgg130
  z183 := Tryz.sizeOf130
  v183 := Tryz.zeroValue130
  t218 := Tryz.underlying150
  a218 := Tryz.isAgg150
  z218 := Tryz.sizeOf150
  v218 := Tryz.zeroValue150
  t222 := Tryz.underlying154
  a222 := Tryz.isAgg154
  z222 := Tryz.sizeOf154
  v222 := Tryz.zeroValue154
  t228 := Tryz.underlying158
  a228 := Tryz.isAgg158
  z228 := Tryz.sizeOf158
  v228 := Tryz.zeroValue158
  t229 := Tryz.underlying100
  a229 := Tryz.isAgg100
  z229 := Tryz.sizeOf100
  v229 := Tryz.zeroValue100 }
open Go.Sort Go.RowKit in
theorem Tryz.slices_Sort_string (blk off cap : Nat) (ss : List (List UInt8)) (w : World) (hH : Holds encStr w blk off ss.toArray) (hblk : blk < w.heap.size) (hsz : ss.length < 4611686018427387904) :
    Calls Tryz.prog 34 #[.slice (some ⟨blk, off, none⟩) ss.length cap] w fun e w' =>
      e = .returned (.tuple #[]) ∧ ∃ n os, w' = grow (putRow encStr (Sort.ahead w n) blk off (ss.mergeSort fun x y => decide (x ≤ y)).toArray) os := Any.slices_Sort_string Tryz.lays190 blk off cap ss w hH hblk hsz
open Go.RowKit Go.Sort in
/-- .. and plain. (LAID: no walk: one application.) -/
theorem Tryz.slices_Sort_string_none (p : Option Addr) (cap : Nat) (w : World) :
    Calls Tryz.prog 34 #[.slice p 0 cap] w fun e w' => e = .returned (.tuple #[]) ∧ w' = w := Any.slices_Sort_string_none Tryz.lays190 p cap w
end Go.Proofs.YthmeffpickejkaaGreat

namespace Go.Proofs.YthmeffpickejkaaGreat
open Go.RowKit Go.Sort

theorem strOf_enc (ps : List ByteArray) : ps.flatMap strOf = (datas ps).map encStr := by
  induction ps with
  | nil => rfl
  | cons p t ih =>
    rw [List.flatMap_cons, ih]
    rfl
def baOf (l : List UInt8) : ByteArray := ⟨l.toArray⟩
theorem datas_baOf (ls : List (List UInt8)) : datas (ls.map baOf) = ls := by
  induction ls with
  | nil => rfl
  | cons l t ih => simp only [datas, List.map_cons, List.map_map] at ih ⊢; rw [ih]; rfl
theorem baOf_datas (ps : List ByteArray) : (datas ps).map baOf = ps := by
  induction ps with
  | nil => rfl
  | cons l t ih => simp only [datas, List.map_cons] at ih ⊢; rw [ih]; rfl
def SortRes (base : Nat) (A : Option Addr) (n c : Nat) (ps : List ByteArray) (w : World) (e : Ending) (w' : World) : Prop :=
  e = .returned (.tuple #[]) ∧ ∃ qs : List ByteArray, qs.Perm ps ∧ qs.Pairwise (fun a b => a.data.toList ≤ b.data.toList) ∧ w'.ownsRow base 9 1 (.slice A n c) n (qs.flatMap strOf) ∧ w.grownBy w' (blkOf A)
theorem sort_own (base : Nat) (A : Option Addr) (n c : Nat) (ps : List ByteArray) (w : World) (hl : ps.length = n) (hn : n < 4611686018427387904) (ho : w.ownsRow base 9 1 (.slice A n c) n (ps.flatMap strOf)) :
    Calls Tryz.prog 34 #[.slice A n c] w (SortRes base A n c ps w) := by
  rcases ho.2 with ⟨hv, h0⟩ | ⟨g, cap, cur, hv, hg, hh, hnc, hcm, hcs, ht⟩
  · injection hv with hA hn2 hc2
    subst hA hc2 hn2
    have : ps = [] := List.eq_nil_of_length_eq_zero hl
    subst this
    exact (Tryz.slices_Sort_string_none none 0 w).mono fun e w' ⟨h1, h2⟩ => ⟨h1, [], List.Perm.refl _, List.Pairwise.nil, by rw [h2]; exact ho, by rw [h2]; exact ⟨rfl, rfl, rfl, Nat.le_refl _, fun _ _ _ => rfl⟩⟩
  · injection hv with hA _ hc2
    subst hA hc2
    have hlen : (datas ps).length = n := by rw [datas_length, hl]
    have ht2 : cur.toList.take (datas ps).length = (datas ps).map encStr := by rw [hlen]; rw [strOf_enc] at ht; rw [← ht, Nat.mul_one]
    have := Tryz.slices_Sort_string g 0 c (datas ps) w (holds_of_block hh ht2) (Array.getElem?_eq_some_iff.1 hh).1 (by rw [hlen]; exact hn)
    rw [hlen] at this
    refine this.mono fun e w' ⟨h1, m, os, h2⟩ => ⟨h1, ((datas ps).mergeSort fun x y => decide (x ≤ y)).map baOf, ?_, ?_, ?_, ?_⟩
    · have h3 : ((datas ps).mergeSort fun x y => decide (x ≤ y)).Perm (datas ps) := List.mergeSort_perm _ _
      have h4 := h3.map baOf
      rwa [baOf_datas] at h4
    · have h3 : ((datas ps).mergeSort fun x y => decide (x ≤ y)).Pairwise fun a b => decide (a ≤ b) = true :=
        List.pairwise_mergeSort (fun a b c h1 h2 => by simp only [decide_eq_true_eq] at *; exact List.le_trans h1 h2) (fun a b => by simp only [Bool.or_eq_true, decide_eq_true_eq]; exact List.le_total a b) _
      rw [List.pairwise_map]
      exact h3.imp fun {a b} h => by simpa [baOf] using h
    · subst h2
      have hml : ((datas ps).mergeSort fun x y => decide (x ≤ y)).length = (datas ps).length := List.length_mergeSort _
      have := ownsRow_sorted (w := w) (n := m) (os := os) (ts := (datas ps).mergeSort fun x y => decide (x ≤ y)) (ss := datas ps) hml hg hh (by rw [hlen]; exact hnc) hcm hcs
      rw [hlen] at this
      rw [strOf_enc, datas_baOf]
      exact this
    · subst h2
      exact grownBy_sorted _
end Go.Proofs.YthmeffpickejkaaGreat
