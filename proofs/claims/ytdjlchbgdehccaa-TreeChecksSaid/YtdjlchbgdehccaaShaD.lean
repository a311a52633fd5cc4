/- What a digest of bytes is, in plain words. sum.New and sum.Hash.Add. sum.Hash.Sum and sum.SHA. shuntref2.SHA: the same digest. -/
import Derived.Test.YtdjlchbgdehccaaSha4
import Derived.Test.YtdjlchbgdehccaaCopy0
import Derived.Test.YtdjlchbgdehccaaBytes

namespace Go.Proofs.Ytdjlchbgdehccaa
open Go.RowKit

/-- The words after k blocks. -/
def foldF (h : Nat → Int) (xs : List Int) : Nat → Nat → Int
  | 0 => h
  | k + 1 => blockF (foldF h xs k) keyF (fun j => xs.getD (64 * k + j) 0)
theorem word4_congr {b b' : Nat → Int} {i : Nat} (hi : i < 16) (h : ∀ j, j < 64 → b j = b' j) : word4 b i = word4 b' i := by
  unfold word4
  rw [h (4 * i) (by omega), h (4 * i + 1) (by omega), h (4 * i + 2) (by omega), h (4 * i + 3) (by omega)]
theorem wordsF_congr {b b' : Nat → Int} (h : ∀ j, j < 64 → b j = b' j) : ∀ i, wordsF b i = wordsF b' i
  | 0 => rfl
  | i + 1 => by
    rw [wordsF, wordsF, wordsF_congr h i]
    by_cases hi : i < 16
    · rw [if_pos hi, if_pos hi, word4_congr hi h]
    · rw [if_neg hi, if_neg hi]
theorem blockF_congr {h kf b b' : Nat → Int} (e : ∀ j, j < 64 → b j = b' j) : blockF h kf b = blockF h kf b' := by
  unfold blockF
  rw [wordsF_congr e]
theorem foldF_congr (h : Nat → Int) {xs ys : List Int} : ∀ {k : Nat}, (∀ j, j < 64 * k → xs.getD j 0 = ys.getD j 0) → foldF h xs k = foldF h ys k
  | 0, _ => rfl
  | k + 1, e => by
    rw [foldF, foldF, foldF_congr h (k := k) fun j hj => e j (by omega)]
    exact blockF_congr fun j hj => e _ (by omega)
theorem foldF_app (h : Nat → Int) (xs ys : List Int) {k : Nat} (hk : 64 * k ≤ xs.length) : foldF h (xs ++ ys) k = foldF h xs k :=
  foldF_congr h fun j hj => by simp [List.getD, List.getElem?_append_left (show j < xs.length by omega)]
theorem foldF_add (h : Nat → Int) (xs : List Int) (k : Nat) : ∀ m, foldF h xs (k + m) = foldF (foldF h xs k) (xs.drop (64 * k)) m
  | 0 => rfl
  | m + 1 => by
    show blockF (foldF h xs (k + m)) keyF (fun j => xs.getD (64 * (k + m) + j) 0) = _
    rw [foldF_add h xs k m, foldF]
    exact blockF_congr fun j hj => by
      simp only [List.getD, List.getElem?_drop]
      rw [show 64 * k + (64 * m + j) = 64 * (k + m) + j by omega]
/-- How many zeros stand behind the 128. -/
def padN (n : Nat) : Nat := (119 - n % 64) % 64
theorem padN_lt (n : Nat) : padN n < 64 := Nat.mod_lt _ (by omega)
theorem padN_ne {n z : Nat} (hz : z < padN n) : (n + 1 + z) % 64 ≠ 56 := by unfold padN at hz; omega
theorem padN_eq (n : Nat) : (n + 1 + padN n) % 64 = 56 := by unfold padN; omega
def lenF (m : Nat) (i : Nat) : Int := (m : Int) * 8 / 2 ^ (56 - 8 * i) % 256
/-- What stands behind m bytes. -/
def endL (m : Nat) : List Int := 128 :: List.replicate (padN m) 0 ++ (List.range 8).map (lenF m)
theorem endL_len (m : Nat) : (endL m).length = 9 + padN m := by simp [endL]; omega
theorem all_len (m : Nat) : (m + (endL m).length) % 64 = 0 := by rw [endL_len]; have := padN_eq m; omega
def iv : Nat → Int
  | 0 => 1779033703
  | 1 => 3144134277
  | 2 => 1013904242
  | 3 => 2773480762
  | 4 => 1359893119
  | 5 => 2600822924
  | 6 => 528734635
  | _ => 1541459225
/-- The digest's words. -/
def shaF (xs : List Int) : Nat → Int := foldF iv (xs ++ endL xs.length) ((xs.length + (endL xs.length).length) / 64)
theorem shaF_two (xs : List Int) : shaF xs = foldF (foldF iv xs (xs.length / 64)) (xs.drop (64 * (xs.length / 64)) ++ endL xs.length) (((xs.drop (64 * (xs.length / 64))).length + (endL xs.length).length) / 64) := by
  unfold shaF
  have h1 : (xs.length + (endL xs.length).length) / 64 = xs.length / 64 + ((xs.drop (64 * (xs.length / 64))).length + (endL xs.length).length) / 64 := by
    rw [List.length_drop]; omega
  rw [h1, foldF_add, foldF_app _ _ _ (by omega), List.drop_append_of_le_length (by omega)]
/-- The digest's bytes. -/
def outF (h : Nat → Int) (i : Nat) : Int := h (i / 4) / 2 ^ (24 - 8 * (i % 4)) % 256
def arrB (n : Nat) (f : Nat → Int) : Array Value := Array.ofFn (n := n) fun k => .int .u8 (f k)
theorem arrB_size (n : Nat) (f : Nat → Int) : (arrB n f).size = n := by simp [arrB]
theorem arrB_get {n j : Nat} {f : Nat → Int} (h : j < n) : (arrB n f)[j]? = some (.int .u8 (f j)) := by
  unfold arrB
  rw [Array.getElem?_ofFn, dif_pos h]
theorem arrB_set (n : Nat) (f : Nat → Int) (i : Nat) (x : Int) : (arrB n f).setIfInBounds i (.int .u8 x) = arrB n (upd f i x) := by
  apply Array.ext_getElem?
  intro j
  by_cases hj : j < n
  · rw [arrB_get hj]
    by_cases e : i = j
    · subst e
      rw [Array.getElem?_setIfInBounds_self_of_lt (by rw [arrB_size]; exact hj)]
      simp [upd]
    · rw [Array.getElem?_setIfInBounds_ne e, arrB_get hj]
      have : ¬ j = i := fun h => e h.symm
      simp [upd, this]
  · rw [Array.getElem?_eq_none (by rw [Array.size_setIfInBounds, arrB_size]; omega), Array.getElem?_eq_none (by rw [arrB_size]; omega)]
theorem arrB_congr {n : Nat} {f g : Nat → Int} (h : ∀ k, k < n → f k = g k) : arrB n f = arrB n g := by
  apply Array.ext_getElem?
  intro j
  by_cases hj : j < n
  · rw [arrB_get hj, arrB_get hj, h j hj]
  · rw [Array.getElem?_eq_none (by rw [arrB_size]; omega), Array.getElem?_eq_none (by rw [arrB_size]; omega)]
/-- The digest's bytes ahead of k, zeros behind. -/
def outP (h : Nat → Int) (k : Nat) (i : Nat) : Int := if i < k then outF h i else 0
theorem outP_set (h : Nat → Int) (k : Nat) : upd (outP h k) k (outF h k) = outP h (k + 1) := by
  funext i
  unfold upd outP
  by_cases e : i = k
  · subst e; simp
  · have : (i < k + 1) = (i < k) := by apply propext; omega
    simp [e, this]
theorem outP_zero (h : Nat → Int) : arrB 32 (outP h 0) = arrB 32 fun _ => 0 := arrB_congr fun k _ => by simp [outP]
theorem outP_all (h : Nat → Int) : arrB 32 (outP h 32) = arrB 32 (outF h) := arrB_congr fun k hk => by simp [outP, hk]
end Go.Proofs.Ytdjlchbgdehccaa

namespace Go.Proofs.Ytdjlchbgdehccaa
open Go.RowKit

def NewRes (w : World) (e : Ending) (w' : World) : Prop := e = .returned (.pointer (some ⟨w.heap.size, 0, none⟩)) ∧ Blk w' w.heap.size 125 (hashC iv none 0 0 0) ∧ Below w.heap.size w w'
set_option maxHeartbeats 4000000 in
theorem new_any (w : World) : Calls Try.prog 83 #[] w (NewRes w) := by
  go_enter Try.func83, Try.ntmps83
  go_wp2
  go_ret
  exact ⟨rfl, Blk.new w _ _, (Below.refl _ _).alloc (Nat.le_refl _) _⟩
/-- The digest while the blocks are taken. -/
structure AddAt (base hg : Nat) (h : Nat → Int) (L : List Int) (rb n c : Nat) (m : Int) (w : World) (k : Nat) (W : World) : Prop where
  hB : Blk W hg 125 (hashC (foldF h L k) (some ⟨rb, 0, none⟩) n c m)
  row : W.ownsRow base 5 1 (.slice (some ⟨rb, 0, none⟩) n c) n (i8C L)
  below : Below base w W
  hk : 64 * k ≤ n
def AddJ (base hg : Nat) (h : Nat → Int) (L : List Int) (n : Nat) (m : Int) (w : World) (BA : Option Addr) (nb bc : Nat) (a : Act) (wr : World) : Prop :=
  ∃ (u : Nat → Value) (k p rb c : Nat), a = ⟨List.toArray (.pointer (some ⟨hg, 0, none⟩) :: .slice BA nb bc :: u 2 :: u 3 :: .int .i64 (p : Int) :: u 5 :: u 6 :: u 7 :: u 8 :: u 9 :: u 10 :: u 11 :: u 12 :: u 13 :: u 14 :: u 15 :: u 16 :: u 17 :: u 18 :: u 19 :: u 20 :: u 21 :: u 22 :: u 23 :: u 24 :: u 25 :: u 26 :: u 27 :: u 28 :: u 29 :: u 30 :: u 31 :: u 32 :: u 33 :: u 34 :: u 35 :: u 36 :: u 37 :: u 38 :: u 39 :: u 40 :: u 41 :: u 42 :: u 43 :: u 44 :: u 45 :: u 46 :: u 47 :: u 48 :: u 49 :: u 50 :: u 51 :: u 52 :: []), []⟩ ∧ p = 64 * k ∧ AddAt base hg h L rb n c m w k wr
theorem AddJ.mk {base hg : Nat} {h : Nat → Int} {L : List Int} {rb n c : Nat} {m : Int} {w : World} {BA : Option Addr} {nb bc : Nat} {a : Act} {wr : World} (k p : Nat) (e : a = ⟨List.toArray (.pointer (some ⟨hg, 0, none⟩) :: .slice BA nb bc :: a.tmps.getD 2 undef :: a.tmps.getD 3 undef :: .int .i64 (p : Int) :: a.tmps.getD 5 undef :: a.tmps.getD 6 undef :: a.tmps.getD 7 undef :: a.tmps.getD 8 undef :: a.tmps.getD 9 undef :: a.tmps.getD 10 undef :: a.tmps.getD 11 undef :: a.tmps.getD 12 undef :: a.tmps.getD 13 undef :: a.tmps.getD 14 undef :: a.tmps.getD 15 undef :: a.tmps.getD 16 undef :: a.tmps.getD 17 undef :: a.tmps.getD 18 undef :: a.tmps.getD 19 undef :: a.tmps.getD 20 undef :: a.tmps.getD 21 undef :: a.tmps.getD 22 undef :: a.tmps.getD 23 undef :: a.tmps.getD 24 undef :: a.tmps.getD 25 undef :: a.tmps.getD 26 undef :: a.tmps.getD 27 undef :: a.tmps.getD 28 undef :: a.tmps.getD 29 undef :: a.tmps.getD 30 undef :: a.tmps.getD 31 undef :: a.tmps.getD 32 undef :: a.tmps.getD 33 undef :: a.tmps.getD 34 undef :: a.tmps.getD 35 undef :: a.tmps.getD 36 undef :: a.tmps.getD 37 undef :: a.tmps.getD 38 undef :: a.tmps.getD 39 undef :: a.tmps.getD 40 undef :: a.tmps.getD 41 undef :: a.tmps.getD 42 undef :: a.tmps.getD 43 undef :: a.tmps.getD 44 undef :: a.tmps.getD 45 undef :: a.tmps.getD 46 undef :: a.tmps.getD 47 undef :: a.tmps.getD 48 undef :: a.tmps.getD 49 undef :: a.tmps.getD 50 undef :: a.tmps.getD 51 undef :: a.tmps.getD 52 undef :: []), []⟩) (hp : p = 64 * k) (hw : AddAt base hg h L rb n c m w k wr) : AddJ base hg h L n m w BA nb bc a wr :=
  ⟨fun k => a.tmps.getD k undef, k, p, rb, c, e, hp, hw⟩
def addMu (n : Nat) (a : Act) (_ : World) : Nat := n - (intOf (a.tmps.getD 4 undef)).toNat
def AddRes (h : Nat → Int) (L : List Int) (hg base : Nat) (m : Int) (w : World) (e : Ending) (w' : World) : Prop :=
  e = .returned (.tuple #[]) ∧ ∃ (A : Option Addr) (n c : Nat), Blk w' hg 125 (hashC (foldF h L (L.length / 64)) A n c m) ∧
    w'.ownsRow base 5 1 (.slice A n c) n (i8C (L.drop (64 * (L.length / 64)))) ∧ (L.drop (64 * (L.length / 64))).length = n ∧ Below base w w'
set_option maxRecDepth 100000 in
set_option maxHeartbeats 40000000 in
theorem add_any (h0 : Nat → Int) (X B : List Int) (hg base : Nat) (A : Option Addr) (n c : Nat) (m : Nat) (BA : Option Addr) (nb bc : Nat) (w : World) (hH : Blk w hg 125 (hashC h0 A n c m))
    (ho : w.ownsRow base 5 1 (.slice A n c) n (i8C X)) (hX : X.length = n) (hS : Sl w w.heap.size 1 BA nb (i8C B)) (hB : B.length = nb) (hBne : ∀ b o, BA = some ⟨b, o, none⟩ → b ≠ hg) (h0b : 0 < nb) (hbase : base ≤ hg) (hn : n ≤ 1000000000) (hnb : nb ≤ 1000000000) (hm : m ≤ 1000000000) :
    Calls Try.prog 84 #[.pointer (some ⟨hg, 0, none⟩), .slice BA nb bc] w (AddRes h0 (X ++ B) hg base ((m + nb : Nat) : Int) w) := by
  have HO := Lib.hid ho; have HX := Lib.hid hX; have HS := Lib.hid hS; have HBl := Lib.hid hB
  clear ho hX hS hB
  have hhg := hH.lt
  have z9 := hH.cell 9
  have z8 := hH.cell 8
  rw [show (hashC h0 A n c m)[9]? = some (.int .i64 m) from rfl] at z9
  rw [show (hashC h0 A n c m)[8]? = some (.slice A n c) from rfl] at z8
  have f9 := hH.frozen 9
  have f8 := hH.frozen 8
  have hH1 : Blk (w.setCell ⟨hg, 9, none⟩ (.int .i64 ((m : Int) + nb))) hg 125 (hashC h0 A n c ((m : Int) + nb)) := hH.set 9 (.int .i64 ((m : Int) + nb))
  have hne := hH.ne_row HO.out (by decide)
  have ho1 := own_blkset HO.out hH (by decide) 9 (.int .i64 ((m : Int) + nb))
  have hS1 : Sl (w.setCell ⟨hg, 9, none⟩ (.int .i64 ((m : Int) + nb))) w.heap.size 1 BA nb (i8C B) := ⟨HS.out.1, fun hn => by
    obtain ⟨b, o, e, hb, hr⟩ := HS.out.2 hn
    exact ⟨b, o, e, hb, hr.keep (heap_setCell_other w ⟨hg, 9, none⟩ b _ (fun e2 => hBne b o e e2))⟩⟩
  have HBw := Lib.hid ((Below.refl base w).setCell (p := ⟨hg, 9, none⟩) hbase (.int .i64 ((m : Int) + nb)))
  have HH := Lib.hid hH; have HH1 := Lib.hid hH1; have HO1 := Lib.hid ho1; have HS1 := Lib.hid hS1; have Hne := Lib.hid hne
  clear hH hH1 ho1 hS1 hne
  go_enter Try.func84, Try.ntmps84
  refine wp_scope_J 0 (AddJ base hg h0 (X ++ B) (n + nb) ((m : Int) + nb) w BA nb bc) (addMu (n + nb)) (by rfl) ?_ fun pass => ?_
  · clear z8 z9 f8 f9
    rintro a wr ⟨u, k, p, rb, c1, rfl, hp, hA⟩
    have z8 := hA.hB.cell 8
    rw [show (hashC (foldF h0 (X ++ B) k) (some ⟨rb, 0, none⟩) (n + nb) c1 ((m : Int) + nb))[8]? = some (.slice (some ⟨rb, 0, none⟩) (n + nb) c1) from rfl] at z8
    obtain ⟨hrow, hbr, hrlt, hnc, hcm⟩ := own_row hA.row
    have hkk := hA.hk
    have HRow := Lib.hid hrow; clear hrow
    by_cases hlt : p + 64 ≤ n + nb
    · have hji : 64 ≤ (n : Int) + nb - p := by omega
      have hHA := hA.hB
      have hrne : rb ≠ hg := fun e => hHA.ne_row hA.row (by decide) (by rw [e]; rfl)
      have hbc : ∀ j, j < 64 → wr.cell? ⟨rb, p + j, none⟩ = some (.int .u8 ((X ++ B).getD (64 * k + j) 0)) := fun j hj => by
        have hl : (X ++ B).length = n + nb := by rw [List.length_append, HX.out, HBl.out]
        have := HRow.out (p + j) (.int .u8 ((X ++ B).getD (64 * k + j) 0)) (by
          rw [i8C, List.getElem?_map, ← hp, List.getD, List.getElem?_eq_getElem (by omega)]; rfl)
        rwa [Nat.zero_add] at this
      have HA := Lib.hid hA; have HHA := Lib.hid hHA; have HBC := Lib.hid hbc
      have hcp : ¬ c1 = p := by omega
      have hpc : (p : Int) + 64 ≤ c1 := by omega
      have Hp := Lib.hid hp; have Hnc := Lib.hid hnc; have Hcm := Lib.hid hcm; have Hkk := Lib.hid hkk
      have Hrne := Lib.hid hrne
      clear hA hHA hbc hp hnc hcm hkk hrne
      go_upto_region 5 with (go_at_call 98; refine (take_any _ _ hg _ _ _ _ rb p _ wr HHA.out hrlt HBC.out).mono ?_; rintro e w2 ⟨rfl, hB2, hg2⟩)
      have hro := own_keep HA.out.row fun g o e => hg2.block g (by injection e with e; injection e with e; omega) (by injection e with e; injection e with e; intro e2; injection e2 with e2; exact Hrne.out (by omega))
      have hAt : AddAt base hg h0 (X ++ B) rb (n + nb) c1 ((m : Int) + nb) w (k + 1) w2 :=
        ⟨hB2, hro, HA.out.below.trans (below_grown hg2 (Nat.le_trans hbr (Nat.le_of_lt hrlt)) (fun g e => by injection e with e; omega)), by have := Hp.out; omega⟩
      have HAt := Lib.hid hAt
      clear hAt hro hB2 hg2
      go_wp2
      refine wp_goto (And.intro rfl (And.intro (AddJ.mk (k + 1) (p + 64) rfl (by have := Hp.out; omega) HAt.out) ?_))
      simp [addMu, intOf]
      omega
    · have hji : ¬ 64 ≤ (n : Int) + nb - p := by omega
      have hpm : p ≤ n + nb := by omega
      have hpm' : (p : Int) ≤ n + nb := by omega
      have hl : (X ++ B).length = n + nb := by rw [List.length_append, HX.out, HBl.out]
      have Hk := Lib.hid (show (X ++ B).length / 64 = k by omega)
      have hd : ((X ++ B).drop p).length = n + nb - p := by rw [List.length_drop, hl]
      have hsz := Nat.le_trans hbr (Nat.le_of_lt hrlt)
      have hneR := hA.hB.ne_row hA.row (by decide)
      have HHk := Lib.hid hA.hB
      have HBe := Lib.hid hA.below
      have Hp := Lib.hid hp; have Hnc := Lib.hid hnc; have Hcm := Lib.hid hcm; have Hkk := Lib.hid hkk; have Hl := Lib.hid hl; have Hd := Lib.hid hd
      clear hneR hA hp hnc hcm hkk hl hd
      by_cases hcp : c1 = p
      · have hnp : n + nb = p := by have := Hnc.out; omega
        have hnp' : (n : Int) + nb = p := by omega
        have hnil : i8C ((X ++ B).drop p) = [] := by rw [i8C, List.drop_eq_nil_of_le (by rw [Hl.out]; omega)]; rfl
        have HSd := Lib.hid (show Sl wr wr.heap.size 1 (some ⟨rb, 0, none⟩) (n + nb - p) (i8C ((X ++ B).drop p)) by rw [hnil, show n + nb - p = 0 by omega]; exact Sl.nil _ _ _ _)
        have hcm : n + nb - p ≤ 2000000000 := by omega
        clear hnil hnp hnp'
        have hpc : (p : Int) ≤ c1 := by omega
        go_wp2_with (at_builtin; refine wpList_append_sl rfl _ _ _ rfl Try.u8T rfl (World.ownsRow_nil wr base _ _) rfl HSd.out (i8C_one _) (by unfold maxLen; omega) (by omega) hsz ?_; intro A2 c2 w4 ho4 hg4 hat4; have hH4 := HHk.out.grown hg4 (by simp [blkOf]); have z84 := hH4.cell 8; have f84 := hH4.frozen 8; have hl4 := hH4.lt; have HH4 := Lib.hid hH4; clear hH4)
        refine bodyPost_end (results_none rfl _ _ _) rfl ⟨rfl, A2, n + nb - p, c2, ?_, ?_, ?_, ?_⟩
        · have hh := HH4.out.set 8 (.slice A2 (n + nb - p) c2)
          rw [Hk.out]
          exact hh
        · have hh := own_blkset ho4 HH4.out (by decide) 8 (.slice A2 (n + nb - p) c2)
          rw [Hk.out, ← Hp.out]
          simpa only [Nat.zero_add, List.nil_append] using hh
        · rw [Hk.out, ← Hp.out]
          exact Hd.out
        · exact HBe.out.trans ((below_grown hg4 hsz (fun g e => by cases e)).setCell (p := ⟨hg, 8, none⟩) hbase _)
      · have hpc : (p : Int) ≤ c1 := by have := Hnc.out; omega
        have HSd := Lib.hid (show Sl wr wr.heap.size 1 (some ⟨rb, p, none⟩) (n + nb - p) (i8C ((X ++ B).drop p)) from ⟨by rw [i8C, List.length_map, Hd.out, Nat.mul_one], fun _ => ⟨rb, p, rfl, hrlt, by
          have := HRow.out.drop p
          rw [Nat.zero_add] at this
          rwa [show i8C ((X ++ B).drop p) = (i8C (X ++ B)).drop p by simp [i8C, List.map_drop]]⟩⟩)
        have hcm : n + nb - p ≤ 2000000000 := by omega
        go_wp2_with (at_builtin; refine wpList_append_sl rfl _ _ _ rfl Try.u8T rfl (World.ownsRow_nil wr base _ _) rfl HSd.out (i8C_one _) (by unfold maxLen; omega) (by omega) hsz ?_; intro A2 c2 w4 ho4 hg4 hat4; have hH4 := HHk.out.grown hg4 (by simp [blkOf]); have z84 := hH4.cell 8; have f84 := hH4.frozen 8; have hl4 := hH4.lt; have HH4 := Lib.hid hH4; clear hH4)
        refine bodyPost_end (results_none rfl _ _ _) rfl ⟨rfl, A2, n + nb - p, c2, ?_, ?_, ?_, ?_⟩
        · have hh := HH4.out.set 8 (.slice A2 (n + nb - p) c2)
          rw [Hk.out]
          exact hh
        · have hh := own_blkset ho4 HH4.out (by decide) 8 (.slice A2 (n + nb - p) c2)
          rw [Hk.out, ← Hp.out]
          simpa only [Nat.zero_add, List.nil_append] using hh
        · rw [Hk.out, ← Hp.out]
          exact Hd.out
        · exact HBe.out.trans ((below_grown hg4 hsz (fun g e => by cases e)).setCell (p := ⟨hg, 8, none⟩) hbase _)
  · have Pass := Lib.hid pass; clear pass
    go_upto_region 2 with (at_builtin; refine wpList_append_sl rfl _ _ _ rfl Try.u8T rfl HO1.out rfl HS1.out (i8C_one _) (by unfold maxLen; omega) (by omega) (by simp; omega) ?_; intro A1 c1 w4 ho4 hg4 hat4; have hH4 := HH1.out.grown hg4 Hne.out; have z84 := hH4.cell 8; have f84 := hH4.frozen 8; have hl4 := hH4.lt; have HH4 := Lib.hid hH4; clear hH4)
    have hH5 := HH4.out.set 8 (.slice A1 (n + nb) c1)
    have ho5 := own_blkset ho4 HH4.out (by decide) 8 (.slice A1 (n + nb) c1)
    obtain ⟨rb, hrb⟩ : ∃ rb, A1 = some ⟨rb, 0, none⟩ := by
      rcases ho4.2 with ⟨_, h⟩ | ⟨g, _, _, h, _⟩
      · omega
      · injection h with h; exact ⟨g, h⟩
    have hAt : AddAt base hg h0 (X ++ B) rb (n + nb) c1 ((m : Int) + nb) w 0 (w4.setCell ⟨hg, 8, none⟩ (.slice A1 (n + nb) c1)) :=
      ⟨by rw [hrb] at hH5 ⊢; exact hH5, by rw [hrb] at ho5 ⊢; rw [i8C_append]; exact ho5, HBw.out.trans ((below_grown hg4 (by simp; omega) (fun g e => own_blk1 HO1.out g e)).setCell (p := ⟨hg, 8, none⟩) hbase _), by omega⟩
    have HAt := Lib.hid hAt
    clear hAt hH5 ho5 hrb ho4 hg4 hat4 z84 f84 hl4
    go_wp2
    refine wp_label ?_
    go_step
    go_step
    refine Pass.out _ _ ?_
    exact AddJ.mk 0 0 rfl rfl HAt.out
end Go.Proofs.Ytdjlchbgdehccaa

namespace Go.Proofs.Ytdjlchbgdehccaa
open Go.RowKit

theorem own_of_blk {w : World} {base g : Nat} {e : TypeId} {cs : Array Value} (h : Blk w g e cs) (hb : base ≤ g) (hm : cs.size ≤ maxLen) : w.ownsRow base e 1 (.slice (some ⟨g, 0, none⟩) cs.size cs.size) cs.size cs.toList :=
  ⟨by simp, .inr ⟨g, cs.size, cs, rfl, hb, h, Nat.le_refl _, hm, by simp, by rw [Nat.mul_one]; exact List.take_of_length_le (by simp)⟩⟩
theorem arrB_zero : arrB 32 (fun _ => 0) = #[.int .u8 0, .int .u8 0, .int .u8 0, .int .u8 0, .int .u8 0, .int .u8 0, .int .u8 0, .int .u8 0, .int .u8 0, .int .u8 0, .int .u8 0, .int .u8 0, .int .u8 0, .int .u8 0, .int .u8 0, .int .u8 0, .int .u8 0, .int .u8 0, .int .u8 0, .int .u8 0, .int .u8 0, .int .u8 0, .int .u8 0, .int .u8 0, .int .u8 0, .int .u8 0, .int .u8 0, .int .u8 0, .int .u8 0, .int .u8 0, .int .u8 0, .int .u8 0] := by kernel_rfl
/-- The digest's copy, and the bytes that are put behind. -/
structure EndAt (w : World) (gg : Nat) (gC : Array Value) (RA : Option Addr) (n rc : Nat) (X : List Int) (L : List Int) (A : Option Addr) (l c : Nat) (wr : World) : Prop where
  len : L.length = l
  row : wr.ownsRow (w.heap.size + 1) 5 1 (.slice A l c) l (i8C L)
  hB : Blk wr gg 125 gC
  rest : wr.ownsRow (w.heap.size + 1) 5 1 (.slice RA n rc) n (i8C X)
  ne : ∀ b, blkOf RA = some b → some b ≠ blkOf A
  out : Blk wr w.heap.size 55 (arrB 32 fun _ => 0)
  below : Below w.heap.size w wr
  big : w.heap.size + 1 ≤ wr.heap.size
  ggw : w.heap.size + 1 ≤ gg
theorem EndAt.next {w wr w' : World} {gg : Nat} {gC : Array Value} {RA : Option Addr} {n rc : Nat} {X L : List Int} {A : Option Addr} {l c g c' : Nat} (H : EndAt w gg gC RA n rc X L A l c wr) (x : Int)
    (ho : w'.ownsRow (w.heap.size + 1) 5 1 (.slice (some ⟨g, 0, none⟩) (l + 1) c') (l + 1) (i8C L ++ [.int .u8 x])) (hg : wr.grownBy w' (blkOf A)) (hat : blkOf A = some g ∨ wr.heap.size < g) : EndAt w gg gC RA n rc X (L ++ [x]) (some ⟨g, 0, none⟩) (l + 1) c' w' := by
  have hr : ∀ b, blkOf RA = some b → b < wr.heap.size := fun b e => by
    cases RA with
    | none => cases e
    | some a =>
      simp only [blkOf] at e
      injection e with e
      obtain ⟨ab, ao, aq⟩ := a
      have := (own_lt2 H.rest).2.1
      exact e ▸ this
  refine ⟨by simp [H.len], by rw [i8C_append]; exact ho, H.hB.grown hg (H.hB.ne_row H.row (by decide)), own_keep H.rest fun b o e => hg.block b (hr b (by rw [e]; rfl)) (H.ne b (by rw [e]; rfl)), fun b e e2 => ?_, H.out.grown hg (H.out.ne_row H.row (by decide)), H.below.trans (below_grown hg (by have := H.big; omega) fun b e => by have := own_blk1 H.row b e; omega), Nat.le_trans H.big hg.size, H.ggw⟩
  simp only [blkOf] at e2
  injection e2 with e2
  rcases hat with h | h
  · exact H.ne b e (by rw [h, e2])
  · have := hr b e; omega
def lenOf : Value → Nat
  | .slice _ m _ => m
  | _ => 0
def ZerosAt (w : World) (gg : Nat) (gC : Array Value) (RA : Option Addr) (n rc : Nat) (X : List Int) (v : Value) (wr : World) : Prop :=
  ∃ (z : Nat) (A : Option Addr) (c : Nat), z ≤ padN n ∧ v = .slice A (z + 1) c ∧ EndAt w gg gC RA n rc X (128 :: List.replicate z 0) A (z + 1) c wr
def LensAt (w : World) (gg : Nat) (gC : Array Value) (RA : Option Addr) (n rc : Nat) (X : List Int) (m : Nat) (v i : Value) (wr : World) : Prop :=
  ∃ (k l : Nat) (A : Option Addr) (c : Nat), k ≤ 8 ∧ l ≤ 100 ∧ i = .int .i64 k ∧ v = .slice A l c ∧ EndAt w gg gC RA n rc X (128 :: List.replicate (padN n) 0 ++ (List.range k).map (lenF m)) A l c wr
/-- The digest's bytes while they are written. -/
structure DigAt (w : World) (dg : Nat) (Y : Nat → Int) (q : Nat) (wr : World) : Prop where
  dB : Blk wr dg 55 (arrB 32 (outP Y q))
  out : Blk wr w.heap.size 55 (arrB 32 fun _ => 0)
  below : Below w.heap.size w wr
  far : w.heap.size < dg
theorem DigAt.put {w wr : World} {dg : Nat} {Y : Nat → Int} {q : Nat} (H : DigAt w dg Y q wr) : DigAt w dg Y (q + 1) (wr.setCell ⟨dg, q, none⟩ (.int .u8 (outF Y q))) := by
  have h1 := H.far
  refine ⟨?_, H.out.set_ne ⟨dg, q, none⟩ _ (by show w.heap.size ≠ dg; omega), H.below.setCell (p := ⟨dg, q, none⟩) (by show w.heap.size ≤ dg; omega) _, h1⟩
  have := H.dB.set q (.int .u8 (outF Y q))
  rw [arrB_set, outP_set] at this
  exact this
def SumRes (Y : Nat → Int) (w : World) (e : Ending) (w' : World) : Prop := e = .returned (.agg (arrB 32 (outF Y))) ∧ Below w.heap.size w w'
set_option maxRecDepth 100000 in
theorem run_index8 (Y : Nat → Int) (i : Nat) (hi : i < 8) (W : World) : (Instr.index 115 (.agg #[.int .u32 (Y 0), .int .u32 (Y 1), .int .u32 (Y 2), .int .u32 (Y 3), .int .u32 (Y 4), .int .u32 (Y 5), .int .u32 (Y 6), .int .u32 (Y 7)]) (.int .i64 i)).run Try.prog W = .ok (.int .u32 (Y i)) W := by
  have hc : i = 0 ∨ i = 1 ∨ i = 2 ∨ i = 3 ∨ i = 4 ∨ i = 5 ∨ i = 6 ∨ i = 7 := by omega
  rcases hc with rfl | rfl | rfl | rfl | rfl | rfl | rfl | rfl <;> first | rfl | (simp [Instr.index, run_underlying Try.underlying115, asIntOf, go_sem])
set_option maxRecDepth 100000 in
set_option maxHeartbeats 40000000 in
theorem sum_dig (h0 : Nat → Int) (X : List Int) (hg : Nat) (A : Option Addr) (n c m base : Nat) (w : World) (hH : Blk w hg 125 (hashC h0 A n c m))
    (ho : w.ownsRow base 5 1 (.slice A n c) n (i8C X)) (hX : X.length = n) (hn : n < 64) (hm : m ≤ 1000000000) (hmn : m % 64 = n % 64) :
    Calls Try.prog 85 #[.pointer (some ⟨hg, 0, none⟩)] w (SumRes (foldF h0 (X ++ endL m) ((X ++ endL m).length / 64)) w) := by
  have HO := Lib.hid ho; have HX := Lib.hid hX; have HH := Lib.hid hH; have HM := Lib.hid hmn; have Hpad := Lib.hid (show padN m = padN n by unfold padN; rw [hmn])
  clear ho hX hH hmn
  obtain ⟨Y, hY⟩ : ∃ Y, foldF h0 (X ++ endL m) ((X ++ endL m).length / 64) = Y := ⟨_, rfl⟩
  rw [hY]
  have HY := Lib.hid hY; clear hY
  obtain ⟨W0, hW0⟩ : ∃ W, w.alloc (.cells (arrB 32 fun _ => 0) 55) = W := ⟨_, rfl⟩
  have hsz0 : W0.heap.size = w.heap.size + 1 := by rw [← hW0]; simp
  have hout := Blk.new w 55 (arrB 32 fun _ => 0)
  have hH0 := HH.out.alloc (.cells (arrB 32 fun _ => 0) 55)
  have ho0 := HO.out.alloc (.cells (arrB 32 fun _ => 0) 55)
  have hb0 := (Below.refl w.heap.size w).alloc (Nat.le_refl _) (.cells (arrB 32 fun _ => 0) 55)
  rw [hW0] at hout hH0 ho0 hb0
  have z0 := hH0.cell 0; have z1 := hH0.cell 1; have z2 := hH0.cell 2; have z3 := hH0.cell 3; have z4 := hH0.cell 4; have z5 := hH0.cell 5; have z6 := hH0.cell 6; have z7 := hH0.cell 7; have z8 := hH0.cell 8
  rw [hashC_get h0 A n c m (by omega)] at z0 z1 z2 z3 z4 z5 z6 z7
  rw [show (hashC h0 A n c m)[8]? = some (.slice A n c) from rfl] at z8
  have hh0 := hH0.lt
  have hbase : w.heap.size + 1 ≤ W0.heap.size := Nat.le_of_eq hsz0.symm
  have HOut := Lib.hid hout; have HH0 := Lib.hid hH0; have HO0 := Lib.hid (Sl.of_own ho0); have HB0 := Lib.hid hb0
  clear hout hH0 ho0 hb0
  go_enter Try.func85, Try.ntmps85
  go_upto_region 1 with (fail)
  rw [← arrB_zero, hW0]
  have Hsz0 := Lib.hid hsz0
  clear hW0 hsz0
  refine wp_region_ordB (none) [(0, true), (1, true), (2, true), (3, true), (4, true), (5, true), (6, true), (7, true), (8, false), (9, true), (10, false), (11, true)] (by kernel_rfl) (by kernel_rfl) fun hG0 => ?_
  repeat (first
    | (refine ord_skipB rfl (by rfl) ?_; simp only [Act.put, List.setIfInBounds_toArray, List.set_cons_zero, List.set_cons_succ])
    | (refine ord_qE rfl (by rfl) ?_; apply Exists.intro; refine ⟨fun w' hc' => ?_, ?_⟩; (focus (go_simp; (try go_bits); (try simp only [↓IntWalk.iteOmega]); with_reducible rfl)); simp only [Act.put, List.setIfInBounds_toArray, List.set_cons_zero, List.set_cons_succ]))
  refine ord_eB rfl fun K hK => ?_
  go_wp2_with (at_builtin; refine wpList_append_sl (L2 := i8C X) (m := n) rfl _ _ _ rfl Try.u8T rfl (World.ownsRow_nil W0.drew (w.heap.size + 1) _ _) rfl (HO0.out.below (Below.refl _ _).drew (Nat.le_refl _)) (i8C_one _) (by unfold maxLen; omega) (by omega) hbase ?_; intro A4 c4 w4 ho4 hg4 hat4; simp only [Nat.zero_add, List.nil_append] at ho4 ⊢)
  have hG1 := grown_trans hG0 (hg4)
  refine hK.out _ _ hG1 ?_
  clear hK K
  repeat (first
    | (refine ord_skipB rfl (by rfl) ?_; simp only [Act.put, List.setIfInBounds_toArray, List.set_cons_zero, List.set_cons_succ])
    | (refine ord_qE rfl (by rfl) ?_; apply Exists.intro; refine ⟨fun w' hc' => ?_, ?_⟩; (focus (go_simp; (try go_bits); (try simp only [↓IntWalk.iteOmega]); with_reducible rfl)); simp only [Act.put, List.setIfInBounds_toArray, List.set_cons_zero, List.set_cons_succ]))
  refine ord_eB rfl fun K hK => ?_
  go_wp2_with (fail)
  have hG2 := grown_trans hG1 (World.grownBy_alloc w4 (.cells (hashC h0 A4 n c4 0) 125) none)
  refine hK.out _ _ hG2 ?_
  clear hK K
  repeat (first
    | (refine ord_skipB rfl (by rfl) ?_; simp only [Act.put, List.setIfInBounds_toArray, List.set_cons_zero, List.set_cons_succ])
    | (refine ord_qE rfl (by rfl) ?_; apply Exists.intro; refine ⟨fun w' hc' => ?_, ?_⟩; (focus (go_simp; (try go_bits); (try simp only [↓IntWalk.iteOmega]); with_reducible rfl)); simp only [Act.put, List.setIfInBounds_toArray, List.set_cons_zero, List.set_cons_succ]))
  refine ord_end ?_
  replace hg4 : W0.grownBy w4 none := ⟨hg4.os, hg4.tape, hg4.output, hg4.size, hg4.block⟩
  have hH4 := Blk.new w4 125 (hashC h0 A4 n c4 0)
  have ho5 := ho4.alloc (.cells (hashC h0 A4 n c4 0) 125)
  have hb5 := (HB0.out.trans (below_grown hg4 (by have := Hsz0.out; omega) (fun g e => by cases e))).alloc (Nat.le_trans (by have := Hsz0.out; omega) hg4.size) (.cells (hashC h0 A4 n c4 0) 125)
  have hout5 := (HOut.out.grown hg4 (by simp)).alloc (.cells (hashC h0 A4 n c4 0) 125)
  have hs4 := hg4.size
  have hgb : W0.heap.size ≤ w4.heap.size := hs4
  obtain ⟨W1, hW1⟩ : ∃ W, w4.alloc (.cells (hashC h0 A4 n c4 0) 125) = W := ⟨_, rfl⟩
  have hs1 : W1.heap.size = w4.heap.size + 1 := by rw [← hW1]; simp
  have hrA : ∀ b, blkOf A4 = some b → b < W1.heap.size := fun b e => by
    cases A4 with
    | none => cases e
    | some a =>
      simp only [blkOf] at e
      injection e with e
      obtain ⟨ab, ao, aq⟩ := a
      have := (own_lt2 ho4).2.1
      rw [← e]
      show ab < W1.heap.size
      omega
  obtain ⟨gC, hgC⟩ : ∃ C, hashC h0 A4 n c4 0 = C := ⟨_, rfl⟩
  have Hg9 := Lib.hid hgC
  rw [hW1] at ho5 hb5 hout5 hH4
  have HE := Lib.hid (show EndAt w w4.heap.size (hashC h0 A4 n c4 0) A4 n c4 X [128] (some ⟨W1.heap.size, 0, none⟩) 1 1 (W1.alloc (.cells #[.int .u8 128] 5)) from
    ⟨rfl, own_of_blk (Blk.new W1 5 #[.int .u8 128]) (by have := Hsz0.out; omega) (by unfold maxLen; simp), hH4.alloc _, ho5.alloc _, fun b e e2 => by
      simp only [blkOf] at e2
      injection e2 with e2
      have := hrA b e
      omega, hout5.alloc _, hb5.alloc (by have := Hsz0.out; omega) _, by have := Hsz0.out; simp; omega, by have := Hsz0.out; omega⟩)
  clear hrA ho5 hb5 hout5 hH4 hgC hG0 hG1 hG2
  have hgl : w4.heap.size < W1.heap.size := by omega
  have hrw : (w4.alloc (Obj.cells #[Value.int IntKind.u32 (h0 0), Value.int IntKind.u32 (h0 1), Value.int IntKind.u32 (h0 2), Value.int IntKind.u32 (h0 3), Value.int IntKind.u32 (h0 4), Value.int IntKind.u32 (h0 5), Value.int IntKind.u32 (h0 6), Value.int IntKind.u32 (h0 7), Value.slice A4 n c4, Value.int IntKind.i64 0] 125)) = W1 := hW1
  rw [hrw]
  clear hrw hW1 hs1 hgl ho4 hg4 hat4 hgb hs4 z0 z1 z2 z3 z4 z5 z6 z7 z8 hbase hh0
  obtain ⟨gg, hgg⟩ : ∃ g, w4.heap.size = g := ⟨_, rfl⟩
  rw [hgg] at HE ⊢
  clear hgg
  go_wp2
  go_loopw [4] (fun v wr => ZerosAt w gg (hashC h0 A4 n c4 0) A4 n c4 X v wr) (fun v _ => 100 - lenOf v)
  case atStart => exact ⟨0, _, _, Nat.zero_le _, rfl, HE.out⟩
  case round =>
  clear HE
  obtain ⟨z, A5, c5, hz, rfl, hE⟩ := hrel
  have g8 := hE.hB.cell 8
  rw [show (hashC h0 A4 n c4 0)[8]? = some (.slice A4 n c4) from rfl] at g8
  have HE := Lib.hid hE; clear hE
  by_cases hlt : z < padN n
  · have hz64 := padN_lt n
    have hne : ¬ ((n : Int) + ((z : Int) + 1)) % 64 = 56 := by have := padN_ne hlt; omega
    have Hz := Lib.hid hz; have Hlt := Lib.hid hlt; have H64 := Lib.hid hz64
    have hzz : z ≤ 64 := by omega
    clear hz hlt hz64
    go_upto_region 4 with (fail)
    have hbg := HE.out.big
    go_wp2_with (at_builtin; refine wpList_append_one rfl _ _ _ rfl Try.u8T rfl HE.out.row #[.int .u8 0] rfl (by first | rfl | simp) rfl (by simp [Value.oneCell']) (by unfold maxLen; omega) (by omega) hbg ?_; intro g6 c6 w6 ho6 hg6 hat6)
    have hE6 := HE.out.next 0 ho6 hg6 hat6
    have HE6 := Lib.hid (show EndAt w gg (hashC h0 A4 n c4 0) A4 n c4 X (128 :: List.replicate (z + 1) 0) (some ⟨g6, 0, none⟩) (z + 1 + 1) c6 w6 by rw [List.replicate_succ']; exact hE6)
    clear hE6 ho6 hg6 hat6 g8
    go_roundw
    case rel => exact ⟨z + 1, _, _, by have := Hlt.out; omega, rfl, HE6.out⟩
    case measure => simp [lenOf]; omega
  · have hz64 := padN_lt n
    have hze : z = padN n := by omega
    have heq : ((n : Int) + ((z : Int) + 1)) % 64 = 56 := by have := padN_eq n; omega
    have HE2 := Lib.hid (show LensAt w gg (hashC h0 A4 n c4 0) A4 n c4 X m (.slice A5 (z + 1) c5) (.int .i64 0) wr from ⟨0, z + 1, A5, c5, by omega, by omega, rfl, rfl, by rw [← hze]; simpa using HE.out⟩)
    have hzz : z ≤ 64 := by omega
    clear hze hz64 hz hlt HE
    go_wp2
    go_loopw [4, 35] (fun v i wr => LensAt w gg (hashC h0 A4 n c4 0) A4 n c4 X m v i wr) (fun _ i _ => 8 - (intOf i).toNat)
    case atStart => exact HE2.out
    case round =>
    clear HE2 g8 heq
    obtain ⟨k, l, A6, c6, hk, hl, rfl, rfl, hE⟩ := hrel
    have HE := Lib.hid hE; clear hE
    have g9 := (HH.out.below HE.out.below HH.out.lt).cell 9
    rw [show (hashC h0 A n c m)[9]? = some (.int .i64 m) from rfl] at g9
    by_cases hlt : k < 8
    · have hki : (k : Int) < 8 := by omega
      have hbg := HE.out.big
      go_wp2_with (at_builtin; refine wpList_append_one rfl _ _ _ rfl Try.u8T rfl HE.out.row #[.int .u8 ((m : Int) * 8 / 2 ^ (56 - 8 * k) % 256)] rfl (by first | rfl | simp) rfl (by simp [Value.oneCell']) (by unfold maxLen; omega) (by omega) hbg ?_; intro g6 c7 w6 ho6 hg6 hat6)
      have hE6 := HE.out.next _ ho6 hg6 hat6
      have HE6 := Lib.hid (show EndAt w gg (hashC h0 A4 n c4 0) A4 n c4 X (128 :: List.replicate (padN n) 0 ++ (List.range (k + 1)).map (lenF m)) (some ⟨g6, 0, none⟩) (l + 1) c7 w6 by rw [List.range_succ, List.map_append, ← List.append_assoc]; exact hE6)
      have hll : l + 1 ≤ 100 := by
        have h1 := HE6.out.len; have h2 := padN_lt n
        simp at h1; omega
      clear hE6 ho6 hg6 hat6 g9
      go_roundw
      case rel => exact ⟨k + 1, l + 1, _, _, by omega, hll, by go_num, rfl, HE6.out⟩
      case measure => simp [intOf]; omega
    · have hki : ¬ (k : Int) < 8 := by omega
      have hke : k = 8 := by omega
      have HL := Lib.hid (show 128 :: List.replicate (padN n) 0 ++ (List.range k).map (lenF m) = endL m by rw [hke, ← Hpad.out]; rfl)
      have hlen : (endL m).length = l := by rw [← HL.out]; exact HE.out.len
      have hl0 : 0 < l := by rw [← hlen, endL_len]; omega
      have HLen := Lib.hid hlen
      have hbg := HE.out.big
      have hgg1 := HE.out.hB
      have hgw : w.heap.size + 1 ≤ gg := HE.out.ggw
      have HGG := Lib.hid hgg1
      have HSl := Lib.hid (show Sl wr wr.heap.size 1 A6 l (i8C (endL m)) by have := Sl.of_own HE.out.row; rwa [HL.out] at this)
      have HNe := Lib.hid (show ∀ b o, A6 = some ⟨b, o, none⟩ → b ≠ gg from fun b o e e2 => HE.out.hB.ne_row HE.out.row (by decide) (by rw [e, e2]; rfl))
      clear hgg1 hke hlt hlen g9
      go_upto_region 12 with (go_at_call 84; refine (add_any h0 X (endL m) gg (w.heap.size + 1) A4 n c4 0 A6 l c6 wr HGG.out HE.out.rest HX.out HSl.out HLen.out HNe.out hl0 hgw (by omega) (by omega) (by omega)).mono ?_; rintro e w5 ⟨rfl, A7, n7, c7, hB7, ho7, hl7, hb7⟩)
      rw [← arrB_zero]
      have hBY : Blk w5 gg 125 (hashC Y A7 n7 c7 (0 + l : Nat)) := by rw [HY.out] at hB7; exact hB7
      have hb8 := (HE.out.below.trans (hb7.mono (Nat.le_succ _))).alloc (Nat.le_trans HE.out.below.size hb7.size) (.cells (arrB 32 fun _ => 0) 55)
      have HB8 := Lib.hid (hBY.alloc (.cells (arrB 32 fun _ => 0) 55))
      have HD := Lib.hid (show DigAt w w5.heap.size Y 0 (w5.alloc (.cells (arrB 32 fun _ => 0) 55)) from ⟨by rw [outP_zero]; exact Blk.new w5 _ _, (HE.out.out.below hb7 (Nat.lt_succ_self _)).alloc _, hb8, Nat.lt_of_lt_of_le HE.out.big hb7.size⟩)
      have hz := hb7.size
      obtain ⟨W8, hW8⟩ : ∃ W, w5.alloc (.cells (arrB 32 fun _ => 0) 55) = W := ⟨_, rfl⟩
      obtain ⟨dg, hdg⟩ : ∃ g, w5.heap.size = g := ⟨_, rfl⟩
      rw [hW8] at HB8 HD ⊢
      rw [hdg] at HD ⊢
      have y0 := HB8.out.cell 0; have y1 := HB8.out.cell 1; have y2 := HB8.out.cell 2; have y3 := HB8.out.cell 3; have y4 := HB8.out.cell 4; have y5 := HB8.out.cell 5; have y6 := HB8.out.cell 6; have y7 := HB8.out.cell 7
      rw [hashC_get _ _ _ _ _ (by omega)] at y0 y1 y2 y3 y4 y5 y6 y7
      have hyl := HB8.out.lt
      clear hW8 hdg hb8 hBY hB7 ho7 hl7 hb7 HE hbg HGG HSl HNe hl0 hgw hz
      go_wp2
      go_loopw [60] (fun v wr => ∃ i : Nat, i ≤ 8 ∧ v = .int .i64 i ∧ DigAt w dg Y (4 * i) wr) (fun v _ => 8 - (intOf v).toNat)
      case atStart => exact ⟨0, Nat.zero_le _, rfl, HD.out⟩
      case round =>
      clear HD HB8 y0 y1 y2 y3 y4 y5 y6 y7 hyl
      obtain ⟨i, hi, rfl, hD⟩ := hrel
      have HD := Lib.hid hD; clear hD
      by_cases hlt : i < 8
      · have hii : (i : Int) < 8 := by omega
        have hix := run_index8 Y i hlt wr
        go_upto_region 15 with (fail)
        clear hix
        go_wp2
        go_loopw [64] (fun v wr => ∃ k : Nat, k ≤ 4 ∧ v = .int .i64 k ∧ DigAt w dg Y (4 * i + k) wr) (fun v _ => 4 - (intOf v).toNat)
        case atStart => exact ⟨0, Nat.zero_le _, rfl, HD.out⟩
        case round =>
        clear HD
        obtain ⟨k, hk, rfl, hD⟩ := hrel
        by_cases hlk : k < 4
        · have hkk : (k : Int) < 4 := by omega
          have hdc := (hD.dB.cell (4 * i + k)).trans (arrB_get (by omega))
          have hdf := hD.dB.frozen (4 * i + k)
          have hdl := hD.dB.lt
          have he : outF Y (4 * i + k) = Y i / 2 ^ (24 - 8 * k) % 256 := by
            unfold outF
            rw [show (4 * i + k) / 4 = i by omega, show (4 * i + k) % 4 = k by omega]
          have hD' := hD.put
          rw [he] at hD'
          have HD' := Lib.hid hD'
          have Hlt := Lib.hid hlt
          clear hD' hD he
          go_wp2
          go_roundw
          case rel => exact ⟨k + 1, by omega, by go_num, HD'.out⟩
          case measure => simp [intOf]; omega
        · have hkk : ¬ (k : Int) < 4 := by omega
          have hke : k = 4 := by omega
          have HD := Lib.hid (show DigAt w dg Y (4 * (i + 1)) wr by rw [show 4 * (i + 1) = 4 * i + k by omega]; exact hD)
          clear hD hke
          go_wp2
          go_roundw
          case rel => exact ⟨i + 1, by omega, by go_num, HD.out⟩
          case measure => simp [intOf]; omega
      · have hii : ¬ (i : Int) < 8 := by omega
        have hie : i = 8 := by omega
        have hdB := HD.out.dB
        rw [hie, outP_all] at hdB
        have HdB := Lib.hid hdB
        clear hdB hie
        go_wp2_with (first | (refine wpList_load_row rfl 55 (.tmp 6) rfl dg rfl 55 (arrB 32 (outF Y)) (0, 0) _ HdB.out Try.underlying55 rfl (by kernel_rfl) ?_) | (refine wpList_store_blk rfl 55 (.tmp 2) (.tmp 80) rfl HD.out.out (arrB 32 (outF Y)) rfl rfl (by kernel_rfl) (by kernel_rfl) (by kernel_rfl) ?_; intro w9 hX9 hg9 hs9))
        exact bodyPost_ret (results_cell_row rfl _ _ _ _ _ _ _ (by rfl) hX9 Try.underlying55 rfl (by kernel_rfl)) rfl ⟨rfl, HD.out.below.trans (below_grown hg9 HD.out.below.size (fun g e => by injection e with e; omega))⟩
def ShaRes (xs : List Int) (w : World) (e : Ending) (w' : World) : Prop := e = .returned (.agg (arrB 32 (outF (shaF xs)))) ∧ Below w.heap.size w w'
set_option maxRecDepth 100000 in
set_option maxHeartbeats 40000000 in
theorem sha_any (xs : List Int) (A : Option Addr) (n c : Nat) (w : World) (hS : Sl w w.heap.size 1 A n (i8C xs)) (hx : xs.length = n) (h0 : 0 < n) (hn : n ≤ 1000000000) :
    Calls Try.prog 59 #[.slice A n c] w (ShaRes xs w) := by
  have HS := Lib.hid hS; have HX := Lib.hid hx; clear hS hx
  have HR := Lib.hid (Blk.new w 55 (arrB 32 fun _ => 0))
  have HB := Lib.hid ((Below.refl w.heap.size w).alloc (Nat.le_refl _) (.cells (arrB 32 fun _ => 0) 55))
  obtain ⟨W0, hW0⟩ : ∃ W, w.alloc (.cells (arrB 32 fun _ => 0) 55) = W := ⟨_, rfl⟩
  have Hs0 := Lib.hid (show W0.heap.size = w.heap.size + 1 by rw [← hW0]; simp)
  rw [hW0] at HR HB
  go_enter Try.func59, Try.ntmps59
  go_upto_region 1 with (fail)
  rw [← arrB_zero, hW0]
  clear hW0
  go_upto_region 2 with (go_at_call 83; refine (new_any W0).mono ?_; rintro e w1 ⟨rfl, hN1, hb1⟩)
  have HN1 := Lib.hid hN1
  have hS1 := HS.out.below (HB.out.trans (hb1.mono HB.out.size)) (Nat.le_refl _)
  have HS1 := Lib.hid (hS1.more (Nat.le_trans HB.out.size hb1.size))
  have HNe := Lib.hid (show ∀ b o, A = some ⟨b, o, none⟩ → b ≠ W0.heap.size from fun b o e => by
    obtain ⟨b', o', e', hb', _⟩ := HS.out.2 h0
    rw [e] at e'; injection e' with e'; injection e' with e'
    have := Hs0.out
    omega)
  have hW1 := hN1.lt
  clear hN1 hS1
  go_upto_region 3 with (go_at_call 84; refine (add_any iv [] xs W0.heap.size W0.heap.size none 0 0 0 A n c w1 HN1.out (World.ownsRow_nil _ _ _ _) rfl HS1.out HX.out HNe.out h0 (Nat.le_refl _) (by omega) (by omega) (by omega)).mono ?_; rintro e w2 ⟨rfl, A2, n2, c2, hB2, ho2, hl2, hb2⟩)
  rw [List.nil_append] at hB2 ho2 hl2
  have hn2 : n2 < 64 := by rw [← hl2, List.length_drop]; omega
  have hmn : n % 64 = n2 % 64 := by rw [← hl2, List.length_drop, HX.out]; omega
  have HE := Lib.hid (show foldF (foldF iv xs (xs.length / 64)) (xs.drop (64 * (xs.length / 64)) ++ endL n) ((xs.drop (64 * (xs.length / 64)) ++ endL n).length / 64) = shaF xs by
    rw [shaF_two, HX.out, List.length_append])
  have hb2' := (HB.out.trans (hb1.mono HB.out.size)).trans (hb2.mono (by have := Hs0.out; omega))
  have HR2 := Lib.hid ((HR.out.below hb1 HR.out.lt).below hb2 (by have := HR.out.lt; omega))
  have hB2' : Blk w2 W0.heap.size 125 (hashC (foldF iv xs (xs.length / 64)) A2 n2 c2 (n : Int)) := by rw [Nat.zero_add] at hB2; exact hB2
  have HB2 := Lib.hid hB2'; have HO2 := Lib.hid ho2; have HL2 := Lib.hid hl2; have HB2b := Lib.hid hb2'
  have hw2 := hb2'.size
  clear hB2 hB2' ho2 hl2 hb2 hb1 hb2'
  go_wp2_with (first | (go_at_call 85; refine (sum_dig _ _ W0.heap.size A2 n2 c2 n W0.heap.size w2 HB2.out HO2.out HL2.out hn2 hn hmn).mono ?_; rintro e w3 ⟨rfl, hb3⟩; have hR3 := HR2.out.below hb3 HR2.out.lt) | (refine wpList_store_blk rfl 55 (.tmp 2) (.tmp 9) rfl hR3 (arrB 32 _) rfl rfl (by kernel_rfl) (by kernel_rfl) (by kernel_rfl) ?_; intro w9 hX9 hg9 hs9))
  refine bodyPost_ret (results_cell_row rfl _ _ _ _ _ _ _ (by rfl) hX9 Try.underlying55 rfl (by kernel_rfl)) rfl ⟨by have := HE.out; simp only [List.length_append, List.length_drop] at this; rw [this], ?_⟩
  exact (HB2b.out.trans (hb3.mono hw2)).trans (below_grown hg9 (Nat.le_trans hw2 hb3.size) (fun g e => by injection e with e; omega))
end Go.Proofs.Ytdjlchbgdehccaa

namespace Go.Proofs.Ytdjlchbgdehccaa
open Go.RowKit

/-- All bytes, and the result's cells. -/
structure AllAt (w : World) (L : List Int) (A : Option Addr) (l c : Nat) (wr : World) : Prop where
  len : L.length = l
  row : wr.ownsRow (w.heap.size + 1) 5 1 (.slice A l c) l (i8C L)
  out : Blk wr w.heap.size 54 (arrB 32 fun _ => 0)
  below : Below w.heap.size w wr
  big : w.heap.size + 1 ≤ wr.heap.size
theorem AllAt.next {w wr w' : World} {L : List Int} {A : Option Addr} {l c g c' : Nat} (H : AllAt w L A l c wr) (x : Int)
    (ho : w'.ownsRow (w.heap.size + 1) 5 1 (.slice (some ⟨g, 0, none⟩) (l + 1) c') (l + 1) (i8C L ++ [.int .u8 x])) (hg : wr.grownBy w' (blkOf A)) : AllAt w (L ++ [x]) (some ⟨g, 0, none⟩) (l + 1) c' w' :=
  ⟨by simp [H.len], by rw [i8C_append]; exact ho, H.out.grown hg (H.out.ne_row H.row (by decide)), H.below.trans (below_grown hg (by have := H.big; omega) fun b e => by have := own_blk1 H.row b e; omega), Nat.le_trans H.big hg.size⟩
theorem AllAt.grown {w wr w' : World} {L : List Int} {A : Option Addr} {l c : Nat} (H : AllAt w L A l c wr) (hg : wr.grownBy w' none) : AllAt w L A l c w' :=
  ⟨H.len, own_keep H.row fun b o e => hg.block b (by have := H.row; rw [e] at this; exact (own_lt2 this).2.1) (by simp), H.out.grown hg (by simp), H.below.trans (below_grown hg (by have := H.big; omega) fun b e => by cases e), Nat.le_trans H.big hg.size⟩
/-- The blocks, one after another. -/
structure LpAt (w : World) (L : List Int) (rb l c hb kb : Nat) (f : Nat → Int) (wr : World) : Prop where
  all : AllAt w L (some ⟨rb, 0, none⟩) l c wr
  hB : Blk wr hb 115 (arr 8 f)
  kB : Blk wr kb 116 (arr 64 keyF)
  far : w.heap.size < hb
  far2 : hb < kb
theorem LpAt.grown {w wr w' : World} {L : List Int} {rb l c hb kb : Nat} {f : Nat → Int} (H : LpAt w L rb l c hb kb f wr) (hg : wr.grownBy w' none) : LpAt w L rb l c hb kb f w' :=
  ⟨H.all.grown hg, H.hB.grown hg (by simp), H.kB.grown hg (by simp), H.far, H.far2⟩
theorem LpAt.put {w wr w' : World} {L : List Int} {rb l c hb kb : Nat} {f f' : Nat → Int} (H : LpAt w L rb l c hb kb f wr) (hB : Blk w' hb 115 (arr 8 f')) (hg : wr.grownBy w' (some hb)) : LpAt w L rb l c hb kb f' w' := by
  have h1 := H.far; have h2 := H.far2
  have hr := own_lt2 H.all.row
  have hne : rb ≠ hb := fun e => H.hB.ne_row H.all.row (by decide) (by rw [e]; rfl)
  refine ⟨⟨H.all.len, own_keep H.all.row fun b o e => hg.block b (by injection e with e; injection e with e; omega) (fun e2 => hne (by injection e with e; injection e with e; injection e2 with e2; omega)), H.all.out.grown hg (fun e => by injection e with e; omega), H.all.below.trans (below_grown hg H.all.below.size (fun g e => by injection e with e; omega)), Nat.le_trans H.all.big hg.size⟩, hB, H.kB.grown hg (fun e => by injection e with e; omega), h1, h2⟩
structure OutAt (w : World) (hb og : Nat) (Y : Nat → Int) (q : Nat) (wr : World) : Prop where
  oB : Blk wr og 54 (arrB 32 (outP Y q))
  hB : Blk wr hb 115 (arr 8 Y)
  out : Blk wr w.heap.size 54 (arrB 32 fun _ => 0)
  below : Below w.heap.size w wr
  far : w.heap.size < og
  far2 : hb < og
theorem OutAt.put {w wr : World} {hb og : Nat} {Y : Nat → Int} {q : Nat} (H : OutAt w hb og Y q wr) : OutAt w hb og Y (q + 1) (wr.setCell ⟨og, q, none⟩ (.int .u8 (outF Y q))) := by
  have h1 := H.far; have h2 := H.far2
  refine ⟨?_, H.hB.set_ne ⟨og, q, none⟩ _ (by show hb ≠ og; omega), H.out.set_ne ⟨og, q, none⟩ _ (by show w.heap.size ≠ og; omega), H.below.setCell (p := ⟨og, q, none⟩) (by show w.heap.size ≤ og; omega) _, h1, h2⟩
  have := H.oB.set q (.int .u8 (outF Y q))
  rw [arrB_set, outP_set] at this
  exact this
def ZeroAt (w : World) (xs : List Int) (n : Nat) (v : Value) (wr : World) : Prop :=
  ∃ (z l : Nat) (A : Option Addr) (c : Nat), z ≤ padN n ∧ l = n + 1 + z ∧ v = .slice A l c ∧ AllAt w (xs ++ 128 :: List.replicate z 0) A l c wr
def NumsAt (w : World) (xs : List Int) (n : Nat) (v i : Value) (wr : World) : Prop :=
  ∃ (j l : Nat) (A : Option Addr) (c : Nat), j ≤ 8 ∧ l ≤ 2000000000 ∧ i = .int .i64 ((j : Int) - 1) ∧ v = .slice A l c ∧ AllAt w (xs ++ (128 :: List.replicate (padN n) 0 ++ (List.range (8 - j)).map (lenF n))) A l c wr
set_option maxRecDepth 100000 in
set_option maxHeartbeats 40000000 in
theorem rsha_any (xs : List Int) (A : Option Addr) (n c : Nat) (w : World) (hS : Sl w w.heap.size 1 A n (i8C xs)) (hx : xs.length = n) (hn : n ≤ 1000000000) :
    Calls Try.prog 66 #[.slice A n c] w (ShaRes xs w) := by
  have HS := Lib.hid hS; have HX := Lib.hid hx; clear hS hx
  have HR := Lib.hid (Blk.new w 54 (arrB 32 fun _ => 0))
  have HB := Lib.hid ((Below.refl w.heap.size w).alloc (Nat.le_refl _) (.cells (arrB 32 fun _ => 0) 54))
  obtain ⟨W0, hW0⟩ : ∃ W, w.alloc (.cells (arrB 32 fun _ => 0) 54) = W := ⟨_, rfl⟩
  have Hs0 := Lib.hid (show W0.heap.size = w.heap.size + 1 by rw [← hW0]; simp)
  have hbase : w.heap.size + 1 ≤ W0.heap.size := by have := Hs0.out; omega
  rw [hW0] at HR HB
  go_enter Try.func66, Try.ntmps66
  go_upto_region 1 with (fail)
  rw [← arrB_zero, hW0]
  clear hW0
  go_upto_region 2 with (at_builtin; refine wpList_append_sl (L2 := i8C xs) (m := n) rfl _ _ _ rfl Try.u8T rfl (World.ownsRow_nil W0 (w.heap.size + 1) _ _) rfl (HS.out.below HB.out (Nat.le_refl _)) (i8C_one _) (by unfold maxLen; omega) (by omega) hbase ?_; intro A4 c4 w4 ho4 hg4 hat4; simp only [Nat.zero_add, List.nil_append] at ho4 ⊢)
  have HA := Lib.hid (show AllAt w xs A4 n c4 w4 from ⟨HX.out, ho4, HR.out.grown hg4 (by simp [blkOf]), HB.out.trans (below_grown hg4 (by omega) (fun g e => by cases e)), Nat.le_trans hbase hg4.size⟩)
  clear ho4 hg4 hat4 HR HB
  have hbg := HA.out.big
  go_wp2_with (at_builtin; refine wpList_append_one rfl _ _ _ rfl Try.u8T rfl HA.out.row #[.int .u8 128] rfl (by first | rfl | simp) rfl (by simp [Value.oneCell']) (by unfold maxLen; omega) (by omega) hbg ?_; intro g5 c5 w5 ho5 hg5 hat5)
  have HA5 := Lib.hid (show ZeroAt w xs n (.slice (some ⟨g5, 0, none⟩) (n + 1) c5) w5 from ⟨0, n + 1, _, _, Nat.zero_le _, rfl, rfl, HA.out.next 128 ho5 hg5⟩)
  clear ho5 hg5 hat5 HA hbg
  go_loopw [3] (fun v wr => ZeroAt w xs n v wr) (fun v _ => 4000000000 - lenOf v)
  case atStart => exact HA5.out
  case round =>
  clear HA5
  obtain ⟨z, l, A6, c6, hz, hl, rfl, hA⟩ := hrel
  have HA := Lib.hid hA; clear hA
  by_cases hlt : z < padN n
  · have hz64 := padN_lt n
    have hne : ¬ ((l : Int)) % 64 = 56 := by have := padN_ne hlt; omega
    have Hl := Lib.hid hl
    have hll : l ≤ 1000000100 := by omega
    have hzl : lenOf (.slice A6 l c6) = l := rfl
    clear hz64 hl hz hzl
    have hbg := HA.out.big
    go_wp2_with (at_builtin; refine wpList_append_one rfl _ _ _ rfl Try.u8T rfl HA.out.row #[.int .u8 0] rfl (by first | rfl | simp) rfl (by simp [Value.oneCell']) (by unfold maxLen; omega) (by omega) hbg ?_; intro g6 c7 w6 ho6 hg6 hat6)
    have HA6 := Lib.hid (show AllAt w (xs ++ 128 :: List.replicate (z + 1) 0) (some ⟨g6, 0, none⟩) (l + 1) c7 w6 by
      have := HA.out.next 0 ho6 hg6
      rwa [List.append_assoc, List.cons_append, ← List.replicate_succ'] at this)
    clear ho6 hg6 hat6 HA
    go_roundw
    case rel => exact ⟨z + 1, l + 1, _, _, by omega, by have := Hl.out; omega, rfl, HA6.out⟩
    case measure => simp [lenOf]; omega
  · have hz64 := padN_lt n
    have hze : z = padN n := by omega
    have heq : ((l : Int)) % 64 = 56 := by have := padN_eq n; omega
    have hll : l ≤ 1000000100 := by omega
    have HN := Lib.hid (show NumsAt w xs n (.slice A6 l c6) (.int .i64 7) wr from ⟨8, l, A6, c6, Nat.le_refl _, by omega, rfl, rfl, by rw [← hze]; simpa using HA.out⟩)
    clear hz64 hze hlt hz hl HA
    go_wp2
    go_loopw [3, 5] (fun v i wr => NumsAt w xs n v i wr) (fun _ i _ => (intOf i + 1).toNat)
    case atStart => exact HN.out
    case round =>
    clear HN heq hll
    obtain ⟨j, l, A6, c6, hj, hl, rfl, rfl, hA⟩ := hrel
    have HA := Lib.hid hA; clear hA
    by_cases hj0 : 0 < j
    · obtain ⟨q, rfl⟩ : ∃ q, j = q + 1 := ⟨j - 1, by omega⟩
      have hq : (((q + 1 : Nat) : Int) - 1) = q := by omega
      rw [hq]
      have hqi : 0 ≤ (q : Int) := by omega
      have hq8 : q < 8 := by omega
      have hbg := HA.out.big
      go_wp2_with (at_builtin; refine wpList_append_one rfl _ _ _ rfl Try.u8T rfl HA.out.row #[.int .u8 ((n : Int) * 8 / 2 ^ (8 * q) % 256)] rfl (by first | rfl | simp) rfl (by simp [Value.oneCell']) (by unfold maxLen; omega) (by omega) hbg ?_; intro g6 c7 w6 ho6 hg6 hat6)
      have HA6 := Lib.hid (show AllAt w (xs ++ (128 :: List.replicate (padN n) 0 ++ (List.range (8 - q)).map (lenF n))) (some ⟨g6, 0, none⟩) (l + 1) c7 w6 by
        have := HA.out.next _ ho6 hg6
        rw [List.append_assoc, List.append_assoc] at this
        rw [show 8 - q = 8 - (q + 1) + 1 by omega, List.range_succ, List.map_append]
        show AllAt w (xs ++ ((128 :: List.replicate (padN n) 0) ++ ((List.range (8 - (q + 1))).map (lenF n) ++ [(n : Int) * 8 / 2 ^ (56 - 8 * (8 - (q + 1))) % 256]))) _ _ _ _
        rw [show 56 - 8 * (8 - (q + 1)) = 8 * q by omega]
        exact this)
      have hl6 : l + 1 ≤ 2000000000 := by
        have h1 := HA6.out.len; have h2 := padN_lt n; have h3 := HX.out
        simp at h1; omega
      clear ho6 hg6 hat6 HA
      go_roundw
      case rel => exact ⟨q, l + 1, _, _, by omega, hl6, by go_num, rfl, HA6.out⟩
      case measure => simp [intOf] <;> omega
    · have hj1 : j = 0 := by omega
      subst hj1
      have HA0 := Lib.hid (show AllAt w (xs ++ endL n) A6 l c6 wr from HA.out)
      have hlen : (xs ++ endL n).length = l := HA0.out.len
      have hmod : l % 64 = 0 := by rw [← hlen, List.length_append, HX.out]; exact all_len n
      have hl0 : 0 < l := by rw [← hlen, List.length_append, endL_len]; omega
      obtain ⟨rb, hrb⟩ : ∃ rb, A6 = some ⟨rb, 0, none⟩ := by
        rcases HA0.out.row.2 with ⟨_, h⟩ | ⟨g, _, _, h, _⟩
        · omega
        · injection h with h; exact ⟨g, h⟩
      subst hrb
      obtain ⟨L, hL⟩ : ∃ L, xs ++ endL n = L := ⟨_, rfl⟩
      rw [hL] at HA0 hlen
      have HShaE := Lib.hid (show foldF iv L (l / 64) = shaF xs by rw [← hL]; unfold shaF; rw [HX.out, ← hlen, ← hL, List.length_append, HX.out])
      have HLen := Lib.hid hlen; have HMod := Lib.hid hmod
      have hfar : w.heap.size < wr.heap.size := HA0.out.big
      clear hL hlen hmod HA hj0 hj
      go_upto_region 11 with (refine wpList_store_blk rfl 115 (.tmp 6) (.tmp 40) rfl (Blk.new wr 115 _) (arr 8 iv) rfl rfl (by kernel_rfl) (by kernel_rfl) (by kernel_rfl) ?_; intro w7 hX7 hg7 hs7)
      have hg7' : wr.grownBy w7 none := grown_below (((Below.refl wr.heap.size wr).alloc (Nat.le_refl _) _).trans (below_grown hg7 (by simp) (fun g e => by injection e with e; omega))) (Nat.le_refl _)
      have HA7 := Lib.hid (HA0.out.grown hg7')
      have HH7 := Lib.hid hX7
      have hh7 := hX7.lt
      clear hX7 hg7 hs7 hg7' HA0
      obtain ⟨hb, hhb⟩ : ∃ g, wr.heap.size = g := ⟨_, rfl⟩
      rw [hhb] at HH7 hh7 hfar ⊢
      clear hhb
      go_upto_region 12 with (first | (go_at_call 87; refine (keys_any _).mono ?_; rintro e w8 ⟨rfl, hb8⟩) | (refine wpList_store_blk rfl 116 (.tmp 7) (.tmp 41) rfl (Blk.new w8 116 _) (arr 64 keyF) rfl rfl (by kernel_rfl) (by kernel_rfl) (by kernel_rfl) ?_; intro w9 hX9 hg9 hs9))
      have hg9' : w7.grownBy w9 none := grown_below (hb8.trans (((Below.refl w7.heap.size w8).alloc hb8.size _).trans (below_grown hg9 (by have := hb8.size; simp; omega) (fun g e => by have := hb8.size; injection e with e; omega)))) (Nat.le_refl _)
      have hkb := hb8.size
      have HLp := Lib.hid (show LpAt w L rb l c6 hb w8.heap.size (foldF iv L 0) w9 from ⟨HA7.out.grown hg9', HH7.out.grown hg9' (by simp), hX9, hfar, by omega⟩)
      obtain ⟨kb, hkbe⟩ : ∃ g, w8.heap.size = g := ⟨_, rfl⟩
      rw [hkbe] at HLp ⊢
      clear hkbe hX9 hg9 hs9 hg9' hb8 HA7 HH7 hkb hfar hh7
      go_wp2
      go_loopw [8] (fun v wr => ∃ k p : Nat, k ≤ l / 64 ∧ p = 64 * k ∧ v = .int .i64 p ∧ LpAt w L rb l c6 hb kb (foldF iv L k) wr) (fun v _ => l - (intOf v).toNat)
      case atStart => exact ⟨0, 0, Nat.zero_le _, rfl, rfl, HLp.out⟩
      case round =>
      clear HLp
      obtain ⟨k, p, hk, hp, rfl, hA⟩ := hrel
      have HA := Lib.hid hA; clear hA
      by_cases hlt : p < l
      · have hpi : (p : Int) < l := by omega
        obtain ⟨hrow, hbr, hrlt, hnc, hcm⟩ := own_row HA.out.all.row
        have hk1 : k + 1 ≤ l / 64 := by have := HMod.out; omega
        have hp64 : p + 64 ≤ l := by have := HMod.out; omega
        have hcp : ¬ c6 = p := by omega
        have hpc : (p : Int) + 64 ≤ c6 := by omega
        have HBC := Lib.hid (show ∀ j, j < 64 → wr.drew.cell? ⟨rb, p + j, none⟩ = some (.int .u8 (L.getD (64 * k + j) 0)) from fun j hj => by
          have := hrow (p + j) (.int .u8 (L.getD (64 * k + j) 0)) (by
            rw [i8C, List.getElem?_map, ← hp, List.getD, List.getElem?_eq_getElem (by rw [HLen.out]; omega)]; rfl)
          rwa [Nat.zero_add] at this)
        have HH := Lib.hid HA.out.hB; have HK := Lib.hid HA.out.kB
        have hhl := HA.out.hB.lt; have hkl := HA.out.kB.lt
        have Hp := Lib.hid hp; have Hnc := Lib.hid hnc; have Hcm := Lib.hid hcm
        clear hp hnc hcm hrow hlt hk
        go_upto_region 15 with (fail)
        refine wp_region_ordG (none) [(0, true), (1, true), (2, true), (3, true), (4, true), (5, true), (6, true), (7, false)] 8 (by kernel_rfl) (by kernel_rfl) fun hG0 => ?_
        repeat (first
          | (refine ord_skipB rfl (by rfl) ?_; simp only [Act.put, List.setIfInBounds_toArray, List.set_cons_zero, List.set_cons_succ])
          | (first | (refine ord_qH rfl (by rfl) (fun w' hh => exec_load_blk rfl rfl (HH.out.keep (hh _ hhl (by simp))) Try.underlying115 rfl (by kernel_rfl)) ?_; simp only [Act.put, List.setIfInBounds_toArray, List.set_cons_zero, List.set_cons_succ]) | (refine ord_qH rfl (by rfl) (fun w' hh => exec_load_blk rfl rfl (HK.out.keep (hh _ hkl (by simp))) Try.underlying116 rfl (by kernel_rfl)) ?_; simp only [Act.put, List.setIfInBounds_toArray, List.set_cons_zero, List.set_cons_succ]))
          | (refine ord_qE rfl (by rfl) ?_; apply Exists.intro; refine ⟨fun w' hc' => ?_, ?_⟩; (focus (go_simp; (try go_bits); (try simp only [↓IntWalk.iteOmega]); with_reducible rfl)); simp only [Act.put, List.setIfInBounds_toArray, List.set_cons_zero, List.set_cons_succ]))
        refine ord_eB rfl fun K hK => ?_
        go_wp2_with (go_at_call 88; refine (block_any _ _ keyF rb p (c6 - p) wr.drew hrlt HBC.out).mono ?_; rintro e w1 ⟨rfl, hb1⟩)
        have hG1 := grown_trans hG0 (grown_below hb1 (Nat.le_refl _))
        refine hK.out _ _ hG1 ?_
        clear hK K
        repeat (first
          | (refine ord_skipB rfl (by rfl) ?_; simp only [Act.put, List.setIfInBounds_toArray, List.set_cons_zero, List.set_cons_succ])
          | (first | (refine ord_qH rfl (by rfl) (fun w' hh => exec_load_blk rfl rfl (HH.out.keep (hh _ hhl (by simp))) Try.underlying115 rfl (by kernel_rfl)) ?_; simp only [Act.put, List.setIfInBounds_toArray, List.set_cons_zero, List.set_cons_succ]) | (refine ord_qH rfl (by rfl) (fun w' hh => exec_load_blk rfl rfl (HK.out.keep (hh _ hkl (by simp))) Try.underlying116 rfl (by kernel_rfl)) ?_; simp only [Act.put, List.setIfInBounds_toArray, List.set_cons_zero, List.set_cons_succ]))
          | (refine ord_qE rfl (by rfl) ?_; apply Exists.intro; refine ⟨fun w' hc' => ?_, ?_⟩; (focus (go_simp; (try go_bits); (try simp only [↓IntWalk.iteOmega]); with_reducible rfl)); simp only [Act.put, List.setIfInBounds_toArray, List.set_cons_zero, List.set_cons_succ]))
        have hLp1 := HA.out.grown hG1
        have HLp1 := Lib.hid hLp1
        clear hG0 hG1 hb1
        refine ord_tail rfl fun K hK => ?_
        go_wp2_with (refine wpList_store_blk rfl 115 (.tmp 6) (.tmp 55) rfl hLp1.hB (arr 8 _) rfl rfl (by kernel_rfl) (by kernel_rfl) (by kernel_rfl) ?_; intro w2 hX2 hg2 hs2)
        refine hK.out _ _ ?_
        clear hK K
        have hLp2 := HLp1.out.put hX2 hg2
        have HLp2 := Lib.hid (show LpAt w L rb l c6 hb kb (foldF iv L (k + 1)) w2 from hLp2)
        clear hLp2 hLp1 hX2 hg2 hs2 HLp1 HA
        go_wp2
        go_roundw
        case rel => exact ⟨k + 1, p + 64, hk1, by have := Hp.out; omega, by go_num, HLp2.out⟩
        case measure => simp [intOf]; omega
      · have hpi : ¬ (p : Int) < l := by omega
        have hke : k = l / 64 := by have := HMod.out; omega
        obtain ⟨Y, hY⟩ : ∃ Y, shaF xs = Y := ⟨_, rfl⟩
        have hYe : foldF iv L k = Y := by rw [hke, HShaE.out, hY]
        have HY := Lib.hid hY
        have HA2 := HA.out
        rw [hYe] at HA2
        have HD := Lib.hid (show OutAt w hb wr.heap.size Y 0 (wr.alloc (.cells (arrB 32 fun _ => 0) 54)) from ⟨by rw [outP_zero]; exact Blk.new wr _ _, HA2.hB.alloc _, HA2.all.out.alloc _, HA2.all.below.alloc HA2.all.below.size _, HA2.all.big, HA2.hB.lt⟩)
        have hwl := HA2.hB.lt
        obtain ⟨W8, hW8⟩ : ∃ W, wr.alloc (.cells (arrB 32 fun _ => 0) 54) = W := ⟨_, rfl⟩
        obtain ⟨og, hog⟩ : ∃ g, wr.heap.size = g := ⟨_, rfl⟩
        clear HA HA2 hke hYe hY hp hk hlt
        go_upto_region 17 with (fail)
        rw [← arrB_zero, hW8]
        rw [hW8, hog] at HD
        clear hW8 hog hwl
        go_wp2
        go_loopw [10] (fun v wr => ∃ i : Nat, i ≤ 32 ∧ v = .int .i64 i ∧ OutAt w hb og Y i wr) (fun v _ => 32 - (intOf v).toNat)
        case atStart => exact ⟨0, Nat.zero_le _, rfl, HD.out⟩
        case round =>
        clear HD
        obtain ⟨i, hi, rfl, hD⟩ := hrel
        by_cases hlt : i < 32
        · have hii : (i : Int) < 32 := by omega
          have hhc := (hD.hB.cell (i / 4)).trans (arr_get (show i / 4 < 8 by omega))
          have hhl := hD.hB.lt
          have hoc := (hD.oB.cell i).trans (arrB_get hlt)
          have hof := hD.oB.frozen i
          have hol := hD.oB.lt
          have he : outF Y i = Y (i / 4) / 2 ^ (24 - 8 * (i % 4)) % 256 := rfl
          have hD' := hD.put
          rw [he] at hD'
          have HD' := Lib.hid hD'
          clear hD' he
          clear hD
          go_wp2
          go_roundw
          case rel => exact ⟨i + 1, by omega, by go_num, HD'.out⟩
          case measure => simp [intOf]; omega
        · have hii : ¬ (i : Int) < 32 := by omega
          have hie : i = 32 := by omega
          have hdB := hD.oB
          rw [hie, outP_all] at hdB
          have HdB := Lib.hid hdB
          have HD := Lib.hid hD
          clear hdB hie hD
          go_wp2_with (first | (refine wpList_load_row rfl 54 (.tmp 9) rfl og rfl 54 (arrB 32 (outF Y)) (0, 0) _ HdB.out Try.underlying54 rfl (by kernel_rfl) ?_) | (refine wpList_store_blk rfl 54 (.tmp 2) (.tmp 73) rfl HD.out.out (arrB 32 (outF Y)) rfl rfl (by kernel_rfl) (by kernel_rfl) (by kernel_rfl) ?_; intro w9 hX9 hg9 hs9))
          exact bodyPost_ret (results_cell_row rfl _ _ _ _ _ _ _ (by rfl) hX9 Try.underlying54 rfl (by kernel_rfl)) rfl ⟨by rw [HY.out], HD.out.below.trans (below_grown hg9 HD.out.below.size (fun g e => by injection e with e; omega))⟩
end Go.Proofs.Ytdjlchbgdehccaa
