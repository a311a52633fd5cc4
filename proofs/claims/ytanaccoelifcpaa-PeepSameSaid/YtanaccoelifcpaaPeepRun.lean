/- peep.Run, called with any list in memory and any settings: the list that it makes, in new memory, or the error. -/
import Derived.Test.YtanaccoelifcpaaFused
namespace Go.Proofs.Ytanaccoelifcpaa
open Go.RowKit

/-- What a call with a list and an error number hands back: the list lies in memory of its own. -/
def InsRes (l : List Ins) (err : Int) (w : World) (e : Ending) (w' : World) : Prop :=
  ∃ A c, e = .returned (.tuple #[.slice A l.length c, .int .i64 err]) ∧ w'.ownsRow w.heap.size 44 5 (.slice A l.length c) l.length (insL l) ∧ Below w.heap.size w w'

def few (set : Int) : Bool := bits .and .i64 set 8 != 0
def keepSync (set : Int) (x : Ins) : Bool := x.op != 9 || !few set
def filt (set : Int) (l : List Ins) : List Ins := l.filter (keepSync set)
def syncIns : Ins := ⟨9, ByteArray.empty, ByteArray.empty, 0, 0⟩
def withSync (set : Int) (l : List Ins) : List Ins := if few set = true ∧ l ≠ [] then l ++ [syncIns] else l
def look (set : Int) : Nat → List Ins → Nat → List Ins
  | 0, l, _ => l
  | f + 1, l, p =>
    match l[p]?, l[p + 1]? with
    | some x, some y =>
      match fuse x y set with
      | some z => look set f (l.take p ++ z ++ l.drop (p + 2)) (p - 1)
      | none => look set f l (p + 1)
    | _, _ => l
def lastSync (set : Int) (l : List Ins) : List Ins :=
  match l with
  | [x] => if few set = true ∧ x.op = 9 then [] else l
  | _ => l
/-- The list that peep.Run makes of one that is neither too long nor under settings that can't be. -/
def peepF (set : Int) (xs : List Ins) : List Ins :=
  let l := withSync set (filt set xs)
  lastSync set (look set (2 * l.length) l 0)

theorem filt_snoc_yes {set : Int} {l : List Ins} {x : Ins} (h : keepSync set x = true) : filt set (l ++ [x]) = filt set l ++ [x] := by simp [filt, h]
theorem filt_snoc_no {set : Int} {l : List Ins} {x : Ins} (h : keepSync set x = false) : filt set (l ++ [x]) = filt set l := by simp [filt, h]
theorem filt_le (set : Int) (l : List Ins) : (filt set l).length ≤ l.length := List.length_filter_le _ _
theorem take_snoc {α : Type} {l : List α} {k : Nat} {x : α} (h : l[k]? = some x) : l.take (k + 1) = l.take k ++ [x] := by
  rw [List.take_add_one, h]; rfl

theorem rule_le {l : List Ins} {c : Prop} [Decidable c] {z : List Ins} (h : (if c then some z else none) = some l) (hz : z.length ≤ 1) : l.length ≤ 1 := by
  split at h
  · injection h with h; subst h; exact hz
  · cases h
theorem fusedF_le {x y : Ins} {set : Int} {l : List Ins} : ∀ (R : List (Int × (Ins → Ins → Option (List Ins)))), (∀ q ∈ R, ∀ x y l, q.2 x y = some l → l.length ≤ 1) → fusedF x y set R = some l → l.length ≤ 1
  | [], _, h => by cases h
  | (s, r) :: t, hR, h => by
    rw [fusedF] at h
    split at h
    · exact fusedF_le t (fun q hq => hR q (List.mem_cons_of_mem _ hq)) h
    · split at h
      · rename_i l' hl
        injection h with h; subst h
        exact hR (s, r) (List.mem_cons_self ..) _ _ _ hl
      · exact fusedF_le t (fun q hq => hR q (List.mem_cons_of_mem _ hq)) h
theorem fuse_le {x y : Ins} {set : Int} {l : List Ins} (h : fuse x y set = some l) : l.length ≤ 1 := by
  refine fusedF_le rulesL ?_ h
  intro q hq x y l
  simp only [rulesL, List.mem_cons, List.not_mem_nil, or_false] at hq
  rcases hq with rfl | rfl | rfl | rfl | rfl | rfl | rfl | rfl | rfl | rfl | rfl <;> exact fun h => rule_le h (by simp)

theorem look_fuel (set : Int) : ∀ (f : Nat) (l : List Ins) (p : Nat), 2 * l.length - p ≤ f → look set f l p = look set (2 * l.length - p) l p := by
  intro f
  induction f using Nat.strongRecOn with
  | _ f ih =>
    intro l p hf
    by_cases hp : p + 1 < l.length
    · obtain ⟨f', rfl⟩ : ∃ f', f = f' + 1 := ⟨f - 1, by omega⟩
      obtain ⟨k, hk⟩ : ∃ k, 2 * l.length - p = k + 1 := ⟨2 * l.length - p - 1, by omega⟩
      rw [hk]
      have h1 : l[p]? = some l[p] := List.getElem?_eq_getElem _
      have h2 : l[p + 1]? = some l[p + 1] := List.getElem?_eq_getElem _
      simp only [look, h1, h2]
      split
      · rename_i z hz
        have hz1 := fuse_le hz
        have hlen : (l.take p ++ z ++ l.drop (p + 2)).length ≤ l.length - 1 := by simp; omega
        have hlen2 : p ≤ (l.take p ++ z ++ l.drop (p + 2)).length := by simp; omega
        rw [ih f' (by omega) _ (p - 1) (by omega), ← ih k (by omega) _ (p - 1) (by omega)]
      · rw [ih f' (by omega) _ (p + 1) (by omega), ← ih k (by omega) _ (p + 1) (by omega)]
    · have h2 : l[p + 1]? = none := List.getElem?_eq_none (by omega)
      cases f with
      | zero =>
        have : 2 * l.length - p = 0 := by omega
        rw [this]
      | succ f =>
        cases hk : 2 * l.length - p with
        | zero => simp only [look]; split <;> simp_all
        | succ k => simp only [look, h2]; cases l[p]? <;> rfl

/-- The list as it stands at the head of a round of the first loop. -/
def FiltAt (xs : List Ins) (set : Int) (w wr : World) (k : Nat) (v : Value) : Prop :=
  ∃ A m c, v = .slice A m c ∧ m = (filt set (xs.take k)).length ∧ wr.ownsRow w.heap.size 44 5 (.slice A m c) m (insL (filt set (xs.take k))) ∧ Below w.heap.size w wr

theorem own_lt {w : World} {base e sz g o n c : Nat} {L : List Value} (h : w.ownsRow base e sz (.slice (some ⟨g, o, none⟩) n c) n L) : base ≤ g ∧ g < w.heap.size ∧ o = 0 := by
  rcases h.2 with ⟨h', _⟩ | ⟨g', _, _, h', hb, hh, _⟩
  · cases h'
  · injection h' with h'; injection h' with h'; injection h' with h' h''; subst h'
    exact ⟨hb, (Array.getElem?_eq_some_iff.1 hh).1, h''⟩
theorem own_below {w w' : World} {base e sz n c B : Nat} {A : Option Addr} {L : List Value} (h : w.ownsRow base e sz (.slice A n c) n L) (hb : Below B w w') (hB : w.heap.size ≤ B) : w'.ownsRow base e sz (.slice A n c) n L :=
  own_keep h fun g o e => by subst e; exact hb.block g (by have := (own_lt h).2.1; omega)
theorem own_blk {w : World} {base e sz n c : Nat} {A : Option Addr} {L : List Value} (h : w.ownsRow base e sz (.slice A n c) n L) : ∀ g, blkOf A = some g → base ≤ g := fun g hg => by
  cases A with
  | none => cases hg
  | some a =>
    obtain ⟨b, o, s⟩ := a
    simp only [blkOf, Option.some.injEq] at hg
    subst hg
    rcases h.2 with ⟨h', _⟩ | ⟨g', _, _, h', hb, _⟩
    · cases h'
    · injection h' with h'; injection h' with h'; injection h' with h'; omega

theorem FiltAt.skip {xs : List Ins} {set : Int} {w wr w1 : World} {k : Nat} {x : Ins} {v : Value} (h : FiltAt xs set w wr k v) (hx : xs[k]? = some x) (hk : keepSync set x = false) (hb : Below wr.heap.size wr w1) : FiltAt xs set w w1 (k + 1) v := by
  obtain ⟨A, m, c, rfl, hm, ho, hbw⟩ := h
  refine ⟨A, m, c, rfl, ?_, ?_, hbw.trans (hb.mono hbw.size)⟩
  · rw [take_snoc hx, filt_snoc_no hk]; exact hm
  · rw [take_snoc hx, filt_snoc_no hk]
    exact own_below ho hb (Nat.le_refl _)

theorem FiltAt.push {xs : List Ins} {set : Int} {w w1 : World} {k m c1 g : Nat} {x : Ins} (hx : xs[k]? = some x) (hk : keepSync set x = true) (hm : m = (filt set (xs.take k)).length)
    (ho : w1.ownsRow w.heap.size 44 5 (.slice (some ⟨g, 0, none⟩) (m + 1) c1) (m + 1) (insL (filt set (xs.take k)) ++ x.cells.toList)) (hb : Below w.heap.size w w1) : FiltAt xs set w w1 (k + 1) (.slice (some ⟨g, 0, none⟩) (m + 1) c1) := by
  refine ⟨_, _, _, rfl, ?_, ?_, hb⟩
  · rw [take_snoc hx, filt_snoc_yes hk]; simp [hm]
  · rw [take_snoc hx, filt_snoc_yes hk, insL_snoc]; exact ho

/-- What stands at the label. -/
def p18_LookAt (xs : List Ins) (set : Int) (w wr : World) (Al : Option Addr) (m cl g9 p : Nat) (l : List Ins) : Prop :=
  m = l.length ∧ wr.ownsRow w.heap.size 44 5 (.slice Al m cl) m (insL l) ∧ Blk wr g9 58 ruleCells ∧ w.heap.size ≤ g9 ∧ Below w.heap.size w wr ∧ m ≤ 4097 ∧ p ≤ 2 * m ∧
    look set (2 * m - p) l p = look set (2 * (withSync set (filt set xs)).length) (withSync set (filt set xs)) 0
def RunJ (xs : List Ins) (set : Int) (A : Option Addr) (n c : Nat) (w : World) (a : Act) (wr : World) : Prop :=
  ∃ (u : Nat → Value) (Al : Option Addr) (m cl g9 p : Nat) (pi : Int) (l : List Ins), a = ⟨#[.slice A n c, .int .i64 set, u 2, u 3, .slice none 0 0, .int .i64 0, .slice Al m cl, u 7, u 8, .pointer (some ⟨g9, 0, none⟩), .int .i64 pi, u 11, u 12, u 13, u 14, u 15, u 16, u 17, u 18, u 19, u 20, u 21, u 22, u 23, u 24, u 25, u 26, u 27, u 28, u 29, u 30, u 31, u 32, u 33, u 34, u 35, u 36, u 37, u 38, u 39, u 40, u 41, u 42, u 43, u 44, u 45, u 46, u 47, u 48, u 49, u 50, u 51, u 52, u 53, u 54, u 55, u 56, u 57, u 58, u 59, u 60, u 61, u 62, u 63, u 64, u 65, u 66, u 67, u 68, u 69, u 70, u 71, u 72, u 73, u 74, u 75, u 76, u 77, u 78, u 79, u 80, u 81, u 82, u 83, u 84, u 85, u 86, u 87, u 88, u 89, u 90, u 91, u 92, u 93, u 94, u 95, u 96, u 97, u 98, u 99, u 100, u 101, u 102, u 103, u 104, u 105, u 106, u 107, u 108, u 109, u 110, u 111], []⟩ ∧ pi = p ∧ p18_LookAt xs set w wr Al m cl g9 p l
theorem RunJ.mk {xs : List Ins} {set : Int} {A : Option Addr} {n c : Nat} {w : World} {a : Act} {wr : World} {Al : Option Addr} {m cl g9 p : Nat} {pi : Int} {l : List Ins}
    (h : a = ⟨#[.slice A n c, .int .i64 set, a.tmps.getD 2 undef, a.tmps.getD 3 undef, .slice none 0 0, .int .i64 0, .slice Al m cl, a.tmps.getD 7 undef, a.tmps.getD 8 undef, .pointer (some ⟨g9, 0, none⟩), .int .i64 pi, a.tmps.getD 11 undef, a.tmps.getD 12 undef, a.tmps.getD 13 undef, a.tmps.getD 14 undef, a.tmps.getD 15 undef, a.tmps.getD 16 undef, a.tmps.getD 17 undef, a.tmps.getD 18 undef, a.tmps.getD 19 undef, a.tmps.getD 20 undef, a.tmps.getD 21 undef, a.tmps.getD 22 undef, a.tmps.getD 23 undef, a.tmps.getD 24 undef, a.tmps.getD 25 undef, a.tmps.getD 26 undef, a.tmps.getD 27 undef, a.tmps.getD 28 undef, a.tmps.getD 29 undef, a.tmps.getD 30 undef, a.tmps.getD 31 undef, a.tmps.getD 32 undef, a.tmps.getD 33 undef, a.tmps.getD 34 undef, a.tmps.getD 35 undef, a.tmps.getD 36 undef, a.tmps.getD 37 undef, a.tmps.getD 38 undef, a.tmps.getD 39 undef, a.tmps.getD 40 undef, a.tmps.getD 41 undef, a.tmps.getD 42 undef, a.tmps.getD 43 undef, a.tmps.getD 44 undef, a.tmps.getD 45 undef, a.tmps.getD 46 undef, a.tmps.getD 47 undef, a.tmps.getD 48 undef, a.tmps.getD 49 undef, a.tmps.getD 50 undef, a.tmps.getD 51 undef, a.tmps.getD 52 undef, a.tmps.getD 53 undef, a.tmps.getD 54 undef, a.tmps.getD 55 undef, a.tmps.getD 56 undef, a.tmps.getD 57 undef, a.tmps.getD 58 undef, a.tmps.getD 59 undef, a.tmps.getD 60 undef, a.tmps.getD 61 undef, a.tmps.getD 62 undef, a.tmps.getD 63 undef, a.tmps.getD 64 undef, a.tmps.getD 65 undef, a.tmps.getD 66 undef, a.tmps.getD 67 undef, a.tmps.getD 68 undef, a.tmps.getD 69 undef, a.tmps.getD 70 undef, a.tmps.getD 71 undef, a.tmps.getD 72 undef, a.tmps.getD 73 undef, a.tmps.getD 74 undef, a.tmps.getD 75 undef, a.tmps.getD 76 undef, a.tmps.getD 77 undef, a.tmps.getD 78 undef, a.tmps.getD 79 undef, a.tmps.getD 80 undef, a.tmps.getD 81 undef, a.tmps.getD 82 undef, a.tmps.getD 83 undef, a.tmps.getD 84 undef, a.tmps.getD 85 undef, a.tmps.getD 86 undef, a.tmps.getD 87 undef, a.tmps.getD 88 undef, a.tmps.getD 89 undef, a.tmps.getD 90 undef, a.tmps.getD 91 undef, a.tmps.getD 92 undef, a.tmps.getD 93 undef, a.tmps.getD 94 undef, a.tmps.getD 95 undef, a.tmps.getD 96 undef, a.tmps.getD 97 undef, a.tmps.getD 98 undef, a.tmps.getD 99 undef, a.tmps.getD 100 undef, a.tmps.getD 101 undef, a.tmps.getD 102 undef, a.tmps.getD 103 undef, a.tmps.getD 104 undef, a.tmps.getD 105 undef, a.tmps.getD 106 undef, a.tmps.getD 107 undef, a.tmps.getD 108 undef, a.tmps.getD 109 undef, a.tmps.getD 110 undef, a.tmps.getD 111 undef], []⟩) (hp : pi = p) (hL : p18_LookAt xs set w wr Al m cl g9 p l) : RunJ xs set A n c w a wr := ⟨fun i => a.tmps.getD i undef, Al, m, cl, g9, p, pi, l, h, hp, hL⟩
def runMu (a : Act) (_ : World) : Nat := 2 * (match a.tmps.getD 6 undef with | .slice _ m _ => m | _ => 0) - (intOf (a.tmps.getD 10 undef)).toNat

theorem p18_look_none {set : Int} {l : List Ins} {p : Nat} {x y : Ins} (hx : l[p]? = some x) (hy : l[p + 1]? = some y) (hf : fuse x y set = none) : look set (2 * l.length - p) l p = look set (2 * l.length - (p + 1)) l (p + 1) := by
  have hlt : p + 1 < l.length := (List.getElem?_eq_some_iff.1 hy).1
  obtain ⟨k, hk⟩ : ∃ k, 2 * l.length - p = k + 1 := ⟨2 * l.length - p - 1, by omega⟩
  rw [hk]
  simp only [look, hx, hy, hf]
  congr 1
  omega
theorem look_some {set : Int} {l z : List Ins} {p : Nat} {x y : Ins} (hx : l[p]? = some x) (hy : l[p + 1]? = some y) (hf : fuse x y set = some z) :
    look set (2 * l.length - p) l p = look set (2 * (l.take p ++ z ++ l.drop (p + 2)).length - (p - 1)) (l.take p ++ z ++ l.drop (p + 2)) (p - 1) := by
  have hlt : p + 1 < l.length := (List.getElem?_eq_some_iff.1 hy).1
  have hz := fuse_le hf
  obtain ⟨k, hk⟩ : ∃ k, 2 * l.length - p = k + 1 := ⟨2 * l.length - p - 1, by omega⟩
  rw [hk]
  simp only [look, hx, hy, hf]
  refine look_fuel set k _ _ ?_
  simp
  omega
theorem p18_LookAt.none {xs : List Ins} {set : Int} {w wr w1 : World} {Al : Option Addr} {m cl g9 p : Nat} {l : List Ins} {x y : Ins} (hm : m = l.length) (ho : wr.ownsRow w.heap.size 44 5 (.slice Al m cl) m (insL l)) (hB : Blk wr g9 58 ruleCells)
    (hg : w.heap.size ≤ g9) (hb : Below w.heap.size w wr) (h4 : m ≤ 4097) (hl : look set (2 * m - p) l p = look set (2 * (withSync set (filt set xs)).length) (withSync set (filt set xs)) 0)
    (hx : l[p]? = some x) (hy : l[p + 1]? = some y) (hf : fuse x y set = Option.none) (hb1 : wr.grownBy w1 Option.none) : p18_LookAt xs set w w1 Al m cl g9 (p + 1) l := by
  have hlt : p + 1 < l.length := (List.getElem?_eq_some_iff.1 hy).1
  refine ⟨hm, own_keep ho fun g o e => ?_, hB.grown hb1 (by simp), hg, hb.trans (below_grown hb1 hb.size (fun g e => by cases e)), h4, by omega, ?_⟩
  · subst e; exact hb1.block g (own_lt ho).2.1 (by simp)
  · rw [← hl, hm, ← p18_look_none hx hy hf]
theorem p18_LookAt.some {xs : List Ins} {set : Int} {w wr w1 : World} {m m' m2 cl g g9 p : Nat} {l z : List Ins} {x y : Ins} {L : List Value} (hm : m = l.length) (hB : Blk wr g9 58 ruleCells)
    (hg : w.heap.size ≤ g9) (hgg : w.heap.size ≤ g) (hne : g9 ≠ g) (hb : Below w.heap.size w wr) (h4 : m ≤ 4097) (hl : look set (2 * m - p) l p = look set (2 * (withSync set (filt set xs)).length) (withSync set (filt set xs)) 0)
    (hx : l[p]? = Option.some x) (hy : l[p + 1]? = Option.some y) (hf : fuse x y set = Option.some z) (hb1 : wr.grownBy w1 (Option.some g)) (hm' : m' = (l.take p ++ z ++ l.drop (p + 2)).length)
    (hL : L = insL (l.take p ++ z ++ l.drop (p + 2))) (ho : w1.ownsRow w.heap.size 44 5 (.slice (Option.some ⟨g, 0, Option.none⟩) m2 cl) m2 L) (hm2 : m' = m2) : p18_LookAt xs set w w1 (Option.some ⟨g, 0, Option.none⟩) m' cl g9 (p - 1) (l.take p ++ z ++ l.drop (p + 2)) := by
  have hlt : p + 1 < l.length := (List.getElem?_eq_some_iff.1 hy).1
  have hz := fuse_le hf
  have hlen : m' ≤ m ∧ p ≤ m' := by rw [hm', hm]; simp; omega
  subst hL
  subst hm2
  refine ⟨hm', ho, hB.grown hb1 (by simpa using hne), hg, hb.trans (below_grown hb1 hb.size (fun q e => by injection e with e; omega)), by omega, by omega, ?_⟩
  rw [← hl, hm, look_some hx hy hf, hm']
theorem p18_LookAt.start {xs : List Ins} {set : Int} {w w1 w2 : World} {Al : Option Addr} {m cl : Nat} {L : List Value} (hm : m = (withSync set (filt set xs)).length) (hL : L = insL (withSync set (filt set xs)))
    (ho : w1.ownsRow w.heap.size 44 5 (.slice Al m cl) m L) (hb1 : Below w.heap.size w w1) (hb2 : Below w1.heap.size w1 w2) (h4 : m ≤ 4097) :
    p18_LookAt xs set w (w2.alloc (.cells ruleCells 58)) Al m cl w2.heap.size 0 (withSync set (filt set xs)) := by
  subst hL
  have h1 := hb1.size
  have h2 := hb2.size
  refine ⟨hm, ?_, Blk.new _ _ _, by omega, hb1.trans ((hb2.mono h1).alloc (by omega) _), h4, by omega, by rw [hm]; rfl⟩
  exact own_below (own_below ho hb2 (Nat.le_refl _)) ((Below.refl w2.heap.size w2).alloc (Nat.le_refl _) _) (Nat.le_refl _)

theorem copy_one (l : List Ins) (i : Ins) (p : Nat) : ∀ u ∈ (insL l).take (p * 5) ++ i.cells.toList ++ (insL l).drop ((p + 1) * 5), u.oneCell' = true := by
  intro u hu
  simp only [List.mem_append] at hu
  rcases hu with (h | h) | h
  · exact insL_one l u (List.mem_of_mem_take h)
  · exact Ins.cells_one i u h
  · exact insL_one l u (List.mem_of_mem_drop h)
theorem copy_cut (l : List Ins) (i : Ins) (p m : Nat) (hm : m = l.length) (hp : p + 1 < m) :
    ((insL l).take (p * 5) ++ i.cells.toList ++ (insL l).drop ((p + 1) * 5)).take ((p + 1) * 5) ++ ((insL l).take (p * 5) ++ i.cells.toList ++ (insL l).drop ((p + 1) * 5)).drop ((p + 2) * 5) = insL (l.take p ++ [i] ++ l.drop (p + 2)) := by
  have h1 : ((insL l).take (p * 5) ++ i.cells.toList).length = (p + 1) * 5 := by
    have : (insL l).length = m * 5 := by rw [hm]; exact insL_length l
    have h5 : i.cells.toList.length = 5 := rfl
    simp only [List.length_append, List.length_take, this, h5]
    omega
  rw [List.take_append_of_le_length (by omega), List.take_of_length_le (by omega), List.drop_append, List.drop_of_length_le (by omega), List.nil_append, h1, List.drop_drop]
  have h2 : (p + 1) * 5 + ((p + 2) * 5 - (p + 1) * 5) = (p + 2) * 5 := by omega
  rw [h2, insL_append, insL_append, insL_take, insL_drop]
  rfl
theorem Blk.cells_at {w : World} {g : Nat} {t : TypeId} {cs : Array Value} (h : w.heap[g]? = some (.cells cs t (0, 0))) (j : Nat) (v : Value) (hv : cs.toList[j]? = some v) : w.cell? (Addr.add ⟨g, 0, none⟩ j) = some v := by
  have e := Blk.cell h j
  have e2 : (Addr.add ⟨g, 0, none⟩ j) = ⟨g, j, none⟩ := by
    cases j <;> simp [Addr.add]
  rw [e2, e]
  simpa using hv
theorem mu_a (p m : Nat) (h : p + 1 < m) : 2 * (p + (m - (p + 2))) - (p - 1) < 2 * m - p := by omega
theorem mu_b (p m : Nat) (h : p + 1 < m) : 2 * (p + 1 + (m - (p + 2))) - (p - 1) < 2 * m - p := by omega
theorem mu_c (p m : Nat) (h : p + 1 < m) (h1 : p ≤ 1) : 2 * (p + (m - (p + 2))) < 2 * m - p := by omega
theorem mu_d (p m : Nat) (h : p + 1 < m) (h1 : p ≤ 1) : 2 * (p + 1 + (m - (p + 2))) < 2 * m - p := by omega
theorem mu_e (p m : Nat) (h : p + 1 < m) : 2 * (p + 1) - (p - 1) < 2 * m - p := by omega
theorem mu_f (p m : Nat) (h : p + 1 < m) (h1 : p ≤ 1) : 2 * (p + 1) < 2 * m - p := by omega
theorem look_done {xs : List Ins} {set : Int} {l : List Ins} {m p : Nat} (hm : m = l.length) (hp : ¬ p + 1 < m)
    (hl : look set (2 * m - p) l p = look set (2 * (withSync set (filt set xs)).length) (withSync set (filt set xs)) 0) : peepF set xs = lastSync set l := by
  have h2 : l[p + 1]? = none := List.getElem?_eq_none (by omega)
  have e : look set (2 * m - p) l p = l := by
    cases 2 * m - p with
    | zero => rfl
    | succ k => simp only [look, h2]; split <;> simp_all
  show lastSync set (look set (2 * (withSync set (filt set xs)).length) (withSync set (filt set xs)) 0) = _
  rw [← hl, e]
theorem last_few {set : Int} {l : List Ins} (h : few set = false) : lastSync set l = l := by
  unfold lastSync; split <;> simp [h]
theorem last_len {set : Int} {l : List Ins} (h : l.length ≠ 1) : lastSync set l = l := by
  unfold lastSync; split <;> simp_all
theorem last_op {set : Int} {l : List Ins} {x : Ins} (hx : l[0]? = some x) (h : x.op ≠ 9) : lastSync set l = l := by
  unfold lastSync; split <;> simp_all
theorem last_nil {set : Int} {l : List Ins} {x : Ins} (hx : l[0]? = some x) (h1 : l.length = 1) (hf : few set = true) (h : x.op = 9) : lastSync set l = [] := by
  obtain ⟨y, rfl⟩ : ∃ y, l = [y] := List.length_eq_one_iff.1 h1
  simp at hx
  subst hx
  simp [lastSync, hf, h]

set_option maxRecDepth 100000 in
set_option maxHeartbeats 4000000 in
theorem run_ok (xs : List Ins) (set : Int) (A : Option Addr) (n c : Nat) (w : World) (hA : Sl w w.heap.size 5 A n (insL xs)) (hn : xs.length = n) (h4 : n ≤ 4096) (hs0 : 0 ≤ set) (hs1 : set ≤ 31) :
    Calls Try.prog 9 #[.slice A n c, .int .i64 set] w (InsRes (peepF set xs) 0 w) := by
  have Hn := Lib.hid hn; clear hn
  have HA := Lib.hid hA; clear hA
  have hl : ¬ (4096 : Int) < n := by omega
  have hl2 : ¬ (31 : Int) < set := by omega
  go_enter Try.func9, Try.ntmps9
  go_wp2
  refine wp_scope_J 0 (RunJ xs set A n c w) runMu (by rfl) ?_ fun pass => ?_
  · intro a wr hJ
    obtain ⟨u, Al, m, cl, g9, p, pi, l, rfl, rfl, hL⟩ := hJ
    obtain ⟨hm, ho, hB9, hg9, hbw, hm4, hpm, hlook⟩ := hL
    have Hm := Lib.hid hm; clear hm
    have Hlook := Lib.hid hlook; clear hlook
    have HB9 := Lib.hid hB9
    have h9lt := hB9.lt; clear hB9
    have hws := hbw.size
    by_cases hp : p + 1 < m
    · have hp' : (p : Int) + 1 < m := by omega
      have hp2 : (p : Int) < m := by omega
      obtain ⟨g, rfl⟩ : ∃ g, Al = some ⟨g, 0, none⟩ := by
        rcases ho.2 with ⟨_, h⟩ | ⟨g, _, _, h, _⟩
        · omega
        · injection h with h; exact ⟨g, h⟩
      obtain ⟨hrow, hbg, hglt, hnc, hcm⟩ := own_row ho
      obtain ⟨x, hx⟩ : ∃ x, l[p]? = some x := ⟨l[p]'(by rw [← Hm.out]; omega), List.getElem?_eq_getElem _⟩
      obtain ⟨y, hy⟩ : ∃ x, l[p + 1]? = some x := ⟨l[p + 1]'(by rw [← Hm.out]; omega), List.getElem?_eq_getElem _⟩
      obtain ⟨x0, x1, x2, x3, x4⟩ := hrow.ins hx
      obtain ⟨y0, y1, y2, y3, y4⟩ := hrow.ins hy
      simp only [Nat.zero_add] at x0 x1 x2 x3 x4 y0 y1 y2 y3 y4
      have Hx := Lib.hid hx; clear hx
      have Hy := Lib.hid hy; clear hy
      clear hrow
      rcases hf : fuse x y set with _ | _ | ⟨i, t⟩
      · have Hf := Lib.hid hf; clear hf
        go_upto_region 17 with (fail)
        refine wp_region_ordB (none) [(0, true), (1, true), (2, true), (3, true), (4, true), (5, true), (6, true), (7, true), (8, true), (9, true), (10, true), (11, false), (12, true), (13, true), (14, true), (15, true), (16, true)] (by kernel_rfl) (by kernel_rfl) fun hG0 => ?_
        repeat (first
          | (refine ord_skipB rfl (by rfl) ?_; simp only [Act.put, List.setIfInBounds_toArray, List.set_cons_zero, List.set_cons_succ])
          | (refine ord_qH rfl (by rfl) (fun w' hh => exec_load_blk rfl rfl (HB9.out.keep (hh _ h9lt (by simp))) Try.underlying58 rfl (by kernel_rfl)) ?_; simp only [Act.put, List.setIfInBounds_toArray, List.set_cons_zero, List.set_cons_succ])
          | (refine ord_qE rfl (by rfl) ?_; apply Exists.intro; refine ⟨fun w' hc' => ?_, ?_⟩; (focus (go_simp; (try go_bits); (try simp only [↓IntWalk.iteOmega]); with_reducible rfl)); simp only [Act.put, List.setIfInBounds_toArray, List.set_cons_zero, List.set_cons_succ]))
        refine ord_eB rfl fun K hK => ?_
        go_wp2_with (go_at_call 16; refine (rr_none Hf.out (fused_any x y set _)).mono ?_; rintro e w1 ⟨rfl, hb1⟩)
        have hG1 := grown_trans hG0 (grown_below hb1 (Nat.le_refl _))
        refine hK.out _ _ hG1 ?_
        clear hK K
        repeat (first
          | (refine ord_skipB rfl (by rfl) ?_; simp only [Act.put, List.setIfInBounds_toArray, List.set_cons_zero, List.set_cons_succ])
          | (refine ord_qH rfl (by rfl) (fun w' hh => exec_load_blk rfl rfl (HB9.out.keep (hh _ h9lt (by simp))) Try.underlying58 rfl (by kernel_rfl)) ?_; simp only [Act.put, List.setIfInBounds_toArray, List.set_cons_zero, List.set_cons_succ])
          | (refine ord_qE rfl (by rfl) ?_; apply Exists.intro; refine ⟨fun w' hc' => ?_, ?_⟩; (focus (go_simp; (try go_bits); (try simp only [↓IntWalk.iteOmega]); with_reducible rfl)); simp only [Act.put, List.setIfInBounds_toArray, List.set_cons_zero, List.set_cons_succ]))
        refine ord_end ?_
        go_wp2
        refine wp_goto (And.intro rfl (And.intro (RunJ.mk rfl rfl (p18_LookAt.none Hm.out ho HB9.out hg9 hbw hm4 Hlook.out Hx.out Hy.out Hf.out hG1)) ?_))
        simp [runMu, intOf]
        omega
      · have Hf := Lib.hid hf; clear hf
        go_upto_region 17 with (fail)
        refine wp_region_ordB (none) [(0, true), (1, true), (2, true), (3, true), (4, true), (5, true), (6, true), (7, true), (8, true), (9, true), (10, true), (11, false), (12, true), (13, true), (14, true), (15, true), (16, true)] (by kernel_rfl) (by kernel_rfl) fun hG0 => ?_
        repeat (first
          | (refine ord_skipB rfl (by rfl) ?_; simp only [Act.put, List.setIfInBounds_toArray, List.set_cons_zero, List.set_cons_succ])
          | (refine ord_qH rfl (by rfl) (fun w' hh => exec_load_blk rfl rfl (HB9.out.keep (hh _ h9lt (by simp))) Try.underlying58 rfl (by kernel_rfl)) ?_; simp only [Act.put, List.setIfInBounds_toArray, List.set_cons_zero, List.set_cons_succ])
          | (refine ord_qE rfl (by rfl) ?_; apply Exists.intro; refine ⟨fun w' hc' => ?_, ?_⟩; (focus (go_simp; (try go_bits); (try simp only [↓IntWalk.iteOmega]); with_reducible rfl)); simp only [Act.put, List.setIfInBounds_toArray, List.set_cons_zero, List.set_cons_succ]))
        refine ord_eB rfl fun K hK => ?_
        go_wp2_with (go_at_call 16; refine (rr_nil Hf.out (fused_any x y set _)).mono ?_; rintro e w1 ⟨rfl, hb1⟩)
        have hG1 := grown_trans hG0 (grown_below hb1 (Nat.le_refl _))
        refine hK.out _ _ hG1 ?_
        clear hK K
        repeat (first
          | (refine ord_skipB rfl (by rfl) ?_; simp only [Act.put, List.setIfInBounds_toArray, List.set_cons_zero, List.set_cons_succ])
          | (refine ord_qH rfl (by rfl) (fun w' hh => exec_load_blk rfl rfl (HB9.out.keep (hh _ h9lt (by simp))) Try.underlying58 rfl (by kernel_rfl)) ?_; simp only [Act.put, List.setIfInBounds_toArray, List.set_cons_zero, List.set_cons_succ])
          | (refine ord_qE rfl (by rfl) ?_; apply Exists.intro; refine ⟨fun w' hc' => ?_, ?_⟩; (focus (go_simp; (try go_bits); (try simp only [↓IntWalk.iteOmega]); with_reducible rfl)); simp only [Act.put, List.setIfInBounds_toArray, List.set_cons_zero, List.set_cons_succ]))
        refine ord_end ?_
        have ho1 := own_keep ho fun g' o e => hG1.block g' (by injection e with e; injection e with e; omega) (by simp)
        have hG1_ := hG1
        have HBne := Lib.hid (HB9.out.ne_own ho (by decide))
        have hw1 := hG1.size
        have hcp : ¬ cl = p := by omega
        by_cases hcap : cl = p + 2
        · subst hcap
          have hmp : p + 2 = m := by omega
          have Hmp := Lib.hid hmp; clear hmp
          go_upto_region 20 with (refine wpList_copy_none rfl _ _ _ _ rfl Try.insT _ _ _ rfl rfl ?_)
          refine wp_region_ordB (some g) [(0, true), (1, true), (2, true), (3, true), (4, true), (5, true), (6, true), (7, true), (8, true), (9, true), (10, false), (11, true)] (by kernel_rfl) (by kernel_rfl) fun hG0 => ?_
          repeat (first
            | (refine ord_skipB rfl (by rfl) ?_; simp only [Act.put, List.setIfInBounds_toArray, List.set_cons_zero, List.set_cons_succ])
            | (refine ord_qE rfl (by rfl) ?_; apply Exists.intro; refine ⟨fun w' hc' => ?_, ?_⟩; (focus (go_simp; (try go_bits); (try simp only [↓IntWalk.iteOmega]); with_reducible rfl)); simp only [Act.put, List.setIfInBounds_toArray, List.set_cons_zero, List.set_cons_succ]))
          refine ord_eB rfl fun K hK => ?_
          go_wp2_with (refine wpList_append_cut (j := p + 2) rfl _ _ _ rfl Try.insT rfl ho1 _ _ rfl rfl (by omega) (by omega) (fun h => by have := Hmp.out; omega) (insL_one l) ?_; intro w3 ho3 hg3)
          have hG1 := grown_trans hG0 (hg3)
          refine hK.out _ _ hG1 ?_
          clear hK K
          repeat (first
            | (refine ord_skipB rfl (by rfl) ?_; simp only [Act.put, List.setIfInBounds_toArray, List.set_cons_zero, List.set_cons_succ])
            | (refine ord_qE rfl (by rfl) ?_; apply Exists.intro; refine ⟨fun w' hc' => ?_, ?_⟩; (focus (go_simp; (try go_bits); (try simp only [↓IntWalk.iteOmega]); with_reducible rfl)); simp only [Act.put, List.setIfInBounds_toArray, List.set_cons_zero, List.set_cons_succ]))
          refine ord_end ?_
          go_wp2
          all_goals
            refine wp_goto (And.intro rfl (And.intro (RunJ.mk rfl (p := p - 1) (by omega) (p18_LookAt.some (z := []) Hm.out HB9.out hg9 hbg (fun e => HBne.out e) hbw hm4 Hlook.out Hx.out Hy.out Hf.out (grown_trans (grown_any hG1_) hG1) ?_ ?_ ho3 ?_)) ?_))
            · have := Hm.out; simp; omega
            · simp [insL_append, insL_take, insL_drop]
            · omega
            · simp [runMu, intOf]; first | exact mu_a _ _ hp | exact mu_c _ _ hp (by omega) | omega
        · go_upto_region 20 with (refine wpList_copy_none rfl _ _ _ _ rfl Try.insT _ _ _ rfl rfl ?_)
          refine wp_region_ordB (some g) [(0, true), (1, true), (2, true), (3, true), (4, true), (5, true), (6, true), (7, true), (8, true), (9, true), (10, false), (11, true)] (by kernel_rfl) (by kernel_rfl) fun hG0 => ?_
          repeat (first
            | (refine ord_skipB rfl (by rfl) ?_; simp only [Act.put, List.setIfInBounds_toArray, List.set_cons_zero, List.set_cons_succ])
            | (refine ord_qE rfl (by rfl) ?_; apply Exists.intro; refine ⟨fun w' hc' => ?_, ?_⟩; (focus (go_simp; (try go_bits); (try simp only [↓IntWalk.iteOmega]); with_reducible rfl)); simp only [Act.put, List.setIfInBounds_toArray, List.set_cons_zero, List.set_cons_succ]))
          refine ord_eB rfl fun K hK => ?_
          go_wp2_with (refine wpList_append_cut (j := p + 2) rfl _ _ _ rfl Try.insT rfl ho1 _ _ rfl rfl (by omega) (by omega) (fun h => rfl) (insL_one l) ?_; intro w3 ho3 hg3)
          have hG1 := grown_trans hG0 (hg3)
          refine hK.out _ _ hG1 ?_
          clear hK K
          repeat (first
            | (refine ord_skipB rfl (by rfl) ?_; simp only [Act.put, List.setIfInBounds_toArray, List.set_cons_zero, List.set_cons_succ])
            | (refine ord_qE rfl (by rfl) ?_; apply Exists.intro; refine ⟨fun w' hc' => ?_, ?_⟩; (focus (go_simp; (try go_bits); (try simp only [↓IntWalk.iteOmega]); with_reducible rfl)); simp only [Act.put, List.setIfInBounds_toArray, List.set_cons_zero, List.set_cons_succ]))
          refine ord_end ?_
          go_wp2
          all_goals
            refine wp_goto (And.intro rfl (And.intro (RunJ.mk rfl (p := p - 1) (by omega) (p18_LookAt.some (z := []) Hm.out HB9.out hg9 hbg (fun e => HBne.out e) hbw hm4 Hlook.out Hx.out Hy.out Hf.out (grown_trans (grown_any hG1_) hG1) ?_ ?_ ho3 ?_)) ?_))
            · have := Hm.out; simp; omega
            · simp [insL_append, insL_take, insL_drop]
            · omega
            · simp [runMu, intOf]; first | exact mu_a _ _ hp | exact mu_c _ _ hp (by omega) | omega
      · obtain rfl : t = [] := by
          have := fuse_le hf
          simpa using this
        have Hf := Lib.hid hf; clear hf
        go_upto_region 17 with (fail)
        refine wp_region_ordB (none) [(0, true), (1, true), (2, true), (3, true), (4, true), (5, true), (6, true), (7, true), (8, true), (9, true), (10, true), (11, false), (12, true), (13, true), (14, true), (15, true), (16, true)] (by kernel_rfl) (by kernel_rfl) fun hG0 => ?_
        repeat (first
          | (refine ord_skipB rfl (by rfl) ?_; simp only [Act.put, List.setIfInBounds_toArray, List.set_cons_zero, List.set_cons_succ])
          | (refine ord_qH rfl (by rfl) (fun w' hh => exec_load_blk rfl rfl (HB9.out.keep (hh _ h9lt (by simp))) Try.underlying58 rfl (by kernel_rfl)) ?_; simp only [Act.put, List.setIfInBounds_toArray, List.set_cons_zero, List.set_cons_succ])
          | (refine ord_qE rfl (by rfl) ?_; apply Exists.intro; refine ⟨fun w' hc' => ?_, ?_⟩; (focus (go_simp; (try go_bits); (try simp only [↓IntWalk.iteOmega]); with_reducible rfl)); simp only [Act.put, List.setIfInBounds_toArray, List.set_cons_zero, List.set_cons_succ]))
        refine ord_eB rfl fun K hK => ?_
        go_wp2_with (go_at_call 16; refine (rr_one Hf.out (fused_any x y set _)).mono ?_; rintro e w1 ⟨gs, rfl, hgs, hBs, hb1⟩)
        have hG1 := grown_trans hG0 (grown_below hb1 (Nat.le_refl _))
        refine hK.out _ _ hG1 ?_
        clear hK K
        repeat (first
          | (refine ord_skipB rfl (by rfl) ?_; simp only [Act.put, List.setIfInBounds_toArray, List.set_cons_zero, List.set_cons_succ])
          | (refine ord_qH rfl (by rfl) (fun w' hh => exec_load_blk rfl rfl (HB9.out.keep (hh _ h9lt (by simp))) Try.underlying58 rfl (by kernel_rfl)) ?_; simp only [Act.put, List.setIfInBounds_toArray, List.set_cons_zero, List.set_cons_succ])
          | (refine ord_qE rfl (by rfl) ?_; apply Exists.intro; refine ⟨fun w' hc' => ?_, ?_⟩; (focus (go_simp; (try go_bits); (try simp only [↓IntWalk.iteOmega]); with_reducible rfl)); simp only [Act.put, List.setIfInBounds_toArray, List.set_cons_zero, List.set_cons_succ]))
        refine ord_end ?_
        have ho1 := own_keep ho fun g' o e => hG1.block g' (by injection e with e; injection e with e; omega) (by simp)
        have hG1_ := hG1
        have HBne := Lib.hid (HB9.out.ne_own ho (by decide))
        have hw1 := hG1.size
        have hcp : ¬ cl = p := by omega
        have Hmin := Lib.hid (show (1 : Nat) = Nat.min 1 (m - p) from (Nat.min_eq_left (by omega)).symm)
        by_cases hcap : cl = p + 2
        · subst hcap
          have hmp : p + 2 = m := by omega
          have Hmp := Lib.hid hmp; clear hmp
          go_upto_region 20 with (refine wpList_copy_at rfl _ _ _ _ rfl Try.insT ho1 p 1 _ _ _ i.cells.toList rfl rfl _ _ _ rfl Hmin.out (by omega) rfl (Blk.cells_at hBs) (Ins.cells_one i) ?_; intro w2 ho2 hg2)
          refine wp_region_ordB (some g) [(0, true), (1, true), (2, true), (3, true), (4, true), (5, true), (6, true), (7, true), (8, true), (9, true), (10, false), (11, true)] (by kernel_rfl) (by kernel_rfl) fun hG0 => ?_
          repeat (first
            | (refine ord_skipB rfl (by rfl) ?_; simp only [Act.put, List.setIfInBounds_toArray, List.set_cons_zero, List.set_cons_succ])
            | (refine ord_qE rfl (by rfl) ?_; apply Exists.intro; refine ⟨fun w' hc' => ?_, ?_⟩; (focus (go_simp; (try go_bits); (try simp only [↓IntWalk.iteOmega]); with_reducible rfl)); simp only [Act.put, List.setIfInBounds_toArray, List.set_cons_zero, List.set_cons_succ]))
          refine ord_eB rfl fun K hK => ?_
          go_wp2_with (refine wpList_append_cut (i := p + 1) (j := p + 2) rfl _ _ _ rfl Try.insT rfl ho2 _ _ rfl rfl (by omega) (by omega) (fun h => by have := Hmp.out; omega) (copy_one l i p) ?_; intro w3 ho3 hg3)
          have hG1 := grown_trans hG0 (hg3)
          refine hK.out _ _ hG1 ?_
          clear hK K
          repeat (first
            | (refine ord_skipB rfl (by rfl) ?_; simp only [Act.put, List.setIfInBounds_toArray, List.set_cons_zero, List.set_cons_succ])
            | (refine ord_qE rfl (by rfl) ?_; apply Exists.intro; refine ⟨fun w' hc' => ?_, ?_⟩; (focus (go_simp; (try go_bits); (try simp only [↓IntWalk.iteOmega]); with_reducible rfl)); simp only [Act.put, List.setIfInBounds_toArray, List.set_cons_zero, List.set_cons_succ]))
          refine ord_end ?_
          go_wp2
          all_goals
            refine wp_goto (And.intro rfl (And.intro (RunJ.mk rfl (p := p - 1) (by omega) (p18_LookAt.some (z := [i]) Hm.out HB9.out hg9 hbg (fun e => HBne.out e) hbw hm4 Hlook.out Hx.out Hy.out Hf.out (grown_trans (grown_trans (grown_any hG1_) hg2) hG1) ?_ ?_ ho3 ?_)) ?_))
            · have := Hm.out; simp; omega
            · exact copy_cut l i p m Hm.out hp
            · omega
            · simp [runMu, intOf]; first | exact mu_b _ _ hp | exact mu_e _ _ hp | exact mu_f _ _ hp (by omega) | exact mu_d _ _ hp (by omega) | omega
        · go_upto_region 20 with (refine wpList_copy_at rfl _ _ _ _ rfl Try.insT ho1 p 1 _ _ _ i.cells.toList rfl rfl _ _ _ rfl Hmin.out (by omega) rfl (Blk.cells_at hBs) (Ins.cells_one i) ?_; intro w2 ho2 hg2)
          refine wp_region_ordB (some g) [(0, true), (1, true), (2, true), (3, true), (4, true), (5, true), (6, true), (7, true), (8, true), (9, true), (10, false), (11, true)] (by kernel_rfl) (by kernel_rfl) fun hG0 => ?_
          repeat (first
            | (refine ord_skipB rfl (by rfl) ?_; simp only [Act.put, List.setIfInBounds_toArray, List.set_cons_zero, List.set_cons_succ])
            | (refine ord_qE rfl (by rfl) ?_; apply Exists.intro; refine ⟨fun w' hc' => ?_, ?_⟩; (focus (go_simp; (try go_bits); (try simp only [↓IntWalk.iteOmega]); with_reducible rfl)); simp only [Act.put, List.setIfInBounds_toArray, List.set_cons_zero, List.set_cons_succ]))
          refine ord_eB rfl fun K hK => ?_
          go_wp2_with (refine wpList_append_cut (i := p + 1) (j := p + 2) rfl _ _ _ rfl Try.insT rfl ho2 _ _ rfl rfl (by omega) (by omega) (fun h => rfl) (copy_one l i p) ?_; intro w3 ho3 hg3)
          have hG1 := grown_trans hG0 (hg3)
          refine hK.out _ _ hG1 ?_
          clear hK K
          repeat (first
            | (refine ord_skipB rfl (by rfl) ?_; simp only [Act.put, List.setIfInBounds_toArray, List.set_cons_zero, List.set_cons_succ])
            | (refine ord_qE rfl (by rfl) ?_; apply Exists.intro; refine ⟨fun w' hc' => ?_, ?_⟩; (focus (go_simp; (try go_bits); (try simp only [↓IntWalk.iteOmega]); with_reducible rfl)); simp only [Act.put, List.setIfInBounds_toArray, List.set_cons_zero, List.set_cons_succ]))
          refine ord_end ?_
          go_wp2
          all_goals
            refine wp_goto (And.intro rfl (And.intro (RunJ.mk rfl (p := p - 1) (by omega) (p18_LookAt.some (z := [i]) Hm.out HB9.out hg9 hbg (fun e => HBne.out e) hbw hm4 Hlook.out Hx.out Hy.out Hf.out (grown_trans (grown_trans (grown_any hG1_) hg2) hG1) ?_ ?_ ho3 ?_)) ?_))
            · have := Hm.out; simp; omega
            · exact copy_cut l i p m Hm.out hp
            · omega
            · simp [runMu, intOf]; first | exact mu_b _ _ hp | exact mu_e _ _ hp | exact mu_f _ _ hp (by omega) | exact mu_d _ _ hp (by omega) | omega
    · have hp' : ¬ (p : Int) + 1 < m := by omega
      have hdone := look_done Hm.out hp Hlook.out
      have Hdone := Lib.hid hdone; clear hdone
      by_cases hf : few set = true
      · have b8 : (bits BinOp.and IntKind.i64 set 8 != 0) = true := hf
        by_cases h1 : m = 1
        · subst h1
          obtain ⟨g, rfl⟩ : ∃ g, Al = some ⟨g, 0, none⟩ := by
            rcases ho.2 with ⟨_, h⟩ | ⟨g, _, _, h, _⟩
            · omega
            · injection h with h; exact ⟨g, h⟩
          obtain ⟨hrow, hbg, hglt, hnc, hcm⟩ := own_row ho
          obtain ⟨x, hx⟩ : ∃ x, l[0]? = some x := ⟨l[0]'(by rw [← Hm.out]; omega), List.getElem?_eq_getElem _⟩
          obtain ⟨x0, x1, x2, x3, x4⟩ := hrow.ins hx
          simp only [Nat.zero_add, Nat.zero_mul] at x0 x1 x2 x3 x4
          have Hx := Lib.hid hx; clear hx hrow
          have Hf := Lib.hid hf; clear hf
          by_cases h9 : x.op = 9
          · have H9 := Lib.hid h9
            go_wp2
            refine And.intro rfl ⟨_, (results_tmp2 rfl _ _ _).trans rfl, ?_⟩
            exact ⟨none, 0, by rw [Hdone.out, last_nil Hx.out Hm.out.symm Hf.out H9.out]; rfl, by rw [Hdone.out, last_nil Hx.out Hm.out.symm Hf.out H9.out]; exact World.ownsRow_nil _ _ _ _, hbw⟩
          · have H9 := Lib.hid h9
            go_wp2
            refine And.intro rfl ⟨_, (results_tmp2 rfl _ _ _).trans rfl, ?_⟩
            exact ⟨_, cl, by rw [Hdone.out, last_op Hx.out H9.out, ← Hm.out]; rfl, by rw [Hdone.out, last_op Hx.out H9.out, ← Hm.out]; exact ho, hbw⟩
        · have h1' : ¬ (m : Int) = 1 := by omega
          have Hf := Lib.hid hf; clear hf
          go_wp2
          refine And.intro rfl ⟨_, (results_tmp2 rfl _ _ _).trans rfl, ?_⟩
          exact ⟨Al, cl, by rw [Hdone.out, last_len (by rw [← Hm.out]; exact h1), ← Hm.out]; rfl, by rw [Hdone.out, last_len (by rw [← Hm.out]; exact h1), ← Hm.out]; exact ho, hbw⟩
      · have b8 : (bits BinOp.and IntKind.i64 set 8 != 0) = false := by have := hf; unfold few at this; simpa using this
        have hf0 : few set = false := by simpa using hf
        have Hf := Lib.hid hf0; clear hf hf0
        go_wp2
        refine And.intro rfl ⟨_, (results_tmp2 rfl _ _ _).trans rfl, ?_⟩
        exact ⟨Al, cl, by rw [Hdone.out, last_few Hf.out, ← Hm.out]; rfl, by rw [Hdone.out, last_few Hf.out, ← Hm.out]; exact ho, hbw⟩
  go_upto_block 0 with (fail)
  go_wp2
  go_loopw [6, 24] (fun v i wr => ∃ k : Nat, k ≤ n ∧ i = .int .i64 k ∧ FiltAt xs set w wr k v) (fun _ i _ => n - (intOf i).toNat)
  case atStart => exact ⟨0, Nat.zero_le _, rfl, none, 0, 0, rfl, rfl, World.ownsRow_nil _ _ _ _, Below.refl _ _⟩
  case round =>
    obtain ⟨k, hk, rfl, hF⟩ := hrel
    by_cases hlt : k < n
    · have hki : (k : Int) < n := by omega
      obtain ⟨x, hx⟩ : ∃ x, xs[k]? = some x := ⟨xs[k]'(by rw [Hn.out]; exact hlt), List.getElem?_eq_getElem _⟩
      obtain ⟨b, o, rfl, hb, hrow⟩ := HA.out.2 (by omega)
      have hbw := hF.choose_spec.choose_spec.choose_spec.2.2.2
      obtain ⟨x0, x1, x2, x3, x4⟩ := (hrow.keep (hbw.block b hb)).ins hx
      have hbr : b < wr.heap.size := by have := hbw.size; omega
      obtain ⟨A', m, c', rfl, hm, ho, hbw'⟩ := hF
      have hmle : m ≤ 4096 := by have := filt_le set (xs.take k); have := List.length_take_le k xs; omega
      have Hx := Lib.hid hx; clear hx hrow hbw
      have Hm := Lib.hid hm; clear hm
      by_cases h9 : x.op = 9
      · have b9 : (x.op != 9) = false := by simp [h9]
        by_cases hf : few set = true
        · have b8 : (bits BinOp.and IntKind.i64 set 8 == 0) = false := by have := hf; unfold few at this; simpa using this
          have hks : keepSync set x = false := by simp [keepSync, h9, hf]
          have H9 := Lib.hid h9; clear h9
          have Hf := Lib.hid hf; clear hf
          have Hks := Lib.hid hks; clear hks
          go_wp2
          go_roundw
          case rel => exact ⟨k + 1, by omega, by go_num, FiltAt.skip ⟨A', m, c', rfl, Hm.out, ho, hbw'⟩ Hx.out Hks.out ((Below.refl _ _).alloc (Nat.le_refl _) _)⟩
          case measure => simp [intOf]; omega
        · have b8 : (bits BinOp.and IntKind.i64 set 8 == 0) = true := by have := hf; unfold few at this; simpa using this
          have H9 := Lib.hid h9; clear h9
          have Hf := Lib.hid hf; clear hf
          go_wp2_with (at_builtin; go_must (refine wpList_append_one rfl _ _ _ rfl Try.insT rfl (ho.alloc _) _ rfl (by simp) rfl (Ins.cells_one x) (by unfold maxLen; omega) (by omega) (by have := hbw'.size; simp; omega) ?_); intro g1 c1 w1 ho1 hg1 hat1)
          go_roundw
          case rel => exact ⟨k + 1, by omega, by go_num, FiltAt.push Hx.out (by simp [keepSync, Hf.out]) Hm.out ho1 (hbw'.trans (((Below.refl _ _).alloc hbw'.size _).trans (below_grown hg1 (by have := hbw'.size; simp; omega) (own_blk ho))))⟩
          case measure => simp [intOf]; omega
      · have b9 : (x.op != 9) = true := by simp [h9]
        have H9 := Lib.hid h9; clear h9
        go_wp2_with (at_builtin; go_must (refine wpList_append_one rfl _ _ _ rfl Try.insT rfl (ho.alloc _) _ rfl (by simp) rfl (Ins.cells_one x) (by unfold maxLen; omega) (by omega) (by have := hbw'.size; simp; omega) ?_); intro g1 c1 w1 ho1 hg1 hat1)
        go_roundw
        case rel => exact ⟨k + 1, by omega, by go_num, FiltAt.push Hx.out (by simp [keepSync, H9.out]) Hm.out ho1 (hbw'.trans (((Below.refl _ _).alloc hbw'.size _).trans (below_grown hg1 (by have := hbw'.size; simp; omega) (own_blk ho))))⟩
        case measure => simp [intOf]; omega
    · obtain rfl : k = n := by omega
      obtain ⟨A', m, c', rfl, hm, ho, hbw'⟩ := hF
      rw [List.take_of_length_le (by rw [Hn.out]; exact Nat.le_refl _)] at hm ho
      have hmle : m ≤ 4096 := by have := filt_le set xs; have := Hn.out; omega
      have hws := hbw'.size
      by_cases hf : few set = true
      · have b8 : (bits BinOp.and IntKind.i64 set 8 != 0) = true := hf
        by_cases h0 : 0 < m
        · have h0' : (0 : Int) < m := by omega
          have Hm := Lib.hid hm; clear hm
          have Hf := Lib.hid hf; clear hf
          go_wp2_with (first | (at_builtin; refine wpList_append_one rfl _ _ _ rfl Try.insT rfl ho _ rfl (by simp) rfl (Ins.cells_one syncIns) (by unfold maxLen; omega) (by omega) hws ?_; intro g1 c1 w1 ho1 hg1 hat1) | (refine wpList_store_new rfl _ _ _ rfl _ _ _ rfl rfl (by kernel_rfl) (by rfl) (by kernel_rfl) ?_) | (go_at_call 15; refine (rules_any _).mono ?_; rintro e w2 ⟨rfl, hb2⟩))
          refine wp_label ?_
          go_step
          go_step
          refine pass _ _ ?_
          refine RunJ.mk rfl rfl (p18_LookAt.start ?_ ?_ ho1 (hbw'.trans (below_grown hg1 hws (own_blk ho))) hb2 (by omega))
          · have hne : filt set xs ≠ [] := by intro h; rw [h] at Hm; have := Hm.out; simp at this; omega
            simp [withSync, Hf.out, hne, ← Hm.out]
          · have hne : filt set xs ≠ [] := by intro h; rw [h] at Hm; have := Hm.out; simp at this; omega
            have e : withSync set (filt set xs) = filt set xs ++ [syncIns] := by simp [withSync, Hf.out, hne]
            rw [e, insL_snoc]
            rfl
        · obtain rfl : m = 0 := by omega
          have hnil : filt set xs = [] := List.eq_nil_of_length_eq_zero hm.symm
          have Hm := Lib.hid hm; clear hm
          have Hf := Lib.hid hf; clear hf
          have Hnil := Lib.hid hnil; clear hnil
          go_wp2_with (first | (refine wpList_store_new rfl _ _ _ rfl _ _ _ rfl rfl (by kernel_rfl) (by rfl) (by kernel_rfl) ?_) | (go_at_call 15; refine (rules_any _).mono ?_; rintro e w2 ⟨rfl, hb2⟩))
          refine wp_label ?_
          go_step
          go_step
          refine pass _ _ ?_
          refine RunJ.mk rfl rfl (p18_LookAt.start ?_ ?_ ho hbw' hb2 (by omega))
          · simp [withSync, Hnil.out]
          · simp [withSync, Hnil.out]
      · have b8 : (bits BinOp.and IntKind.i64 set 8 != 0) = false := by have := hf; unfold few at this; simpa using this
        have Hm := Lib.hid hm; clear hm
        have Hf := Lib.hid hf; clear hf
        go_wp2_with (first | (refine wpList_store_new rfl _ _ _ rfl _ _ _ rfl rfl (by kernel_rfl) (by rfl) (by kernel_rfl) ?_) | (go_at_call 15; refine (rules_any _).mono ?_; rintro e w2 ⟨rfl, hb2⟩))
        refine wp_label ?_
        go_step
        go_step
        refine pass _ _ ?_
        refine RunJ.mk rfl rfl (p18_LookAt.start ?_ ?_ ho hbw' hb2 (by omega))
        · simp [withSync, Hf.out, Hm.out]
        · simp [withSync, Hf.out]

theorem run_bad (set : Int) (A : Option Addr) (n c : Nat) (w : World) (h4 : n ≤ 4096) (hs : set < 0 ∨ 31 < set) : Calls Try.prog 9 #[.slice A n c, .int .i64 set] w fun e w' => e = .returned (.tuple #[.slice none 0 0, .int .i64 1]) ∧ Below w.heap.size w w' := by
  have hl : ¬ (4096 : Int) < n := by omega
  go_enter Try.func9, Try.ntmps9
  go_wp2
  refine wp_scope_J 0 (fun _ _ => False) (fun _ _ => 0) (by rfl) (fun a wr h => h.elim) fun pass => ?_
  clear pass
  by_cases h0 : set < 0
  · go_wp2
    exact And.intro rfl ⟨_, (results_tmp2 rfl _ _ _).trans rfl, rfl, Below.refl _ _⟩
  · have h1 : 31 < set := by omega
    go_wp2
    exact And.intro rfl ⟨_, (results_tmp2 rfl _ _ _).trans rfl, rfl, Below.refl _ _⟩
theorem run_long (set : Int) (A : Option Addr) (n c : Nat) (w : World) (h4 : 4096 < n) : Calls Try.prog 9 #[.slice A n c, .int .i64 set] w fun e w' => e = .returned (.tuple #[.slice none 0 0, .int .i64 2]) ∧ Below w.heap.size w w' := by
  have hl : (4096 : Int) < n := by omega
  go_enter Try.func9, Try.ntmps9
  go_wp2
  refine wp_scope_J 0 (fun _ _ => False) (fun _ _ => 0) (by rfl) (fun a wr h => h.elim) fun pass => ?_
  clear pass
  go_wp2
  exact And.intro rfl ⟨_, (results_tmp2 rfl _ _ _).trans rfl, rfl, Below.refl _ _⟩
end Go.Proofs.Ytanaccoelifcpaa
