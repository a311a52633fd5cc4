/- graph.Needs, of the tree without nodes and a list of renames. -/
import Derived.Test.YtdofehgoeppnmaaBook
import Derived.Test.YtdofehgoeppnmaaCheck
import Derived.Test.YtdofehgoeppnmaaRet
import Derived.Deep.DeepCutAuto
namespace Go.Proofs.Ytdofehgoeppnmaa
open Go.RowKit

def fnB (f : Nat) : Value := .func (.func f) #[] #[]
theorem here_any (o : Int) (p q : ByteArray) (m r : Int) (w : World) : Calls Try.prog 18 #[.agg #[.int .i64 o, .string p, .string q, .int .i64 m, .int .i64 r]] w fun e w' => e = .returned (.string p) ∧ Below w.heap.size w w' := by
  go_enter Try.func18, Try.ntmps18
  go_wp2
  go_ret
  exact ⟨rfl, (Below.refl _ _).alloc (Nat.le_refl _) _⟩
theorem there_any (o : Int) (p q : ByteArray) (m r : Int) (w : World) : Calls Try.prog 19 #[.agg #[.int .i64 o, .string p, .string q, .int .i64 m, .int .i64 r]] w fun e w' => e = .returned (.string q) ∧ Below w.heap.size w w' := by
  go_enter Try.func19, Try.ntmps19
  go_wp2
  go_ret
  exact ⟨rfl, (Below.refl _ _).alloc (Nat.le_refl _) _⟩
theorem rows_3 (w : World) : Calls Try.prog 10 #[.int .i64 3] w fun e w' => e = .returned (.tuple #[.agg #[fnB 18, fnB 19, .nilFunc], .bool true]) ∧ Below w.heap.size w w' := by
  unfold fnB
  go_enter Try.func10, Try.ntmps10
  have hB := Blk.new w 46 #[.nilFunc, .nilFunc, .nilFunc]
  have hb := (Below.refl w.heap.size w).alloc (Nat.le_refl _) (.cells #[.nilFunc, .nilFunc, .nilFunc] 46)
  go_wp2_with (refine wpList_store_blk rfl 46 (.tmp 2) (.tmp 15) rfl hB #[.func (.func 18) #[] #[], .func (.func 19) #[] #[], .nilFunc] rfl rfl (by kernel_rfl) rfl (by simp [Value.oneCell']) ?_; intro w7 hB7 hg7 hs7)
  exact ret_cell_t rfl rfl (load_blk hB7 Try.underlying46 rfl (by kernel_rfl)) rfl ⟨rfl, hb.trans (below_grown hg7 (by simp) (fun g e => by injection e with e; omega))⟩

/-- A rename. -/
structure Ren where
  p : ByteArray
  q : ByteArray
  m : Int
  r : Int
  hp : p.size ≤ 9223372036854775807
  hq : q.size ≤ 9223372036854775807
def Ren.list (x : Ren) : List Value := [.int .i64 3, .string x.p, .string x.q, .int .i64 x.m, .int .i64 x.r]
/-- The book of a list, at the paths that f tells. -/
def bookT (f : Ren → ByteArray) (s : List (ByteArray × Value) × Nat) (x : Ren) : List (ByteArray × Value) × Nat := (noteV s.1 (f x) (s.2 : Nat), s.2 + 1)
def bookS (f : Ren → ByteArray) (xs : List Ren) : List (ByteArray × Value) × Nat := xs.foldl (bookT f) ([], 0)
def bookL (f : Ren → ByteArray) (xs : List Ren) : List (ByteArray × Value) := (bookS f xs).1
theorem bookS_snd (f : Ren → ByteArray) (xs : List Ren) : ∀ s : List (ByteArray × Value) × Nat, (xs.foldl (bookT f) s).2 = s.2 + xs.length := by
  induction xs with
  | nil => intro s; rfl
  | cons x t ih => intro s; rw [List.foldl_cons, ih]; simp only [bookT, List.length_cons]; omega
theorem bookL_snoc (f : Ren → ByteArray) (xs : List Ren) (x : Ren) : bookL f (xs ++ [x]) = noteV (bookL f xs) (f x) xs.length := by
  have h := bookS_snd f xs ([], 0)
  have h' : (bookS f xs).2 = xs.length := by rw [bookS, h]; simp
  unfold bookL bookS
  rw [List.foldl_append]
  show noteV (bookS f xs).1 (f x) ((bookS f xs).2 : Nat) = _
  rw [h']; rfl
theorem noteV_len (es : List (ByteArray × Value)) (p : ByteArray) (i : Int) : (noteV es p i).length ≤ es.length + 1 := by
  unfold noteV putV
  split
  · omega
  · split <;> simp
theorem bookL_len (f : Ren → ByteArray) (xs : List Ren) : (bookL f xs).length ≤ xs.length := by
  have h : ∀ (xs : List Ren) (s : List (ByteArray × Value) × Nat), (xs.foldl (bookT f) s).1.length ≤ s.1.length + xs.length := fun xs => by
    induction xs with
    | nil => intro s; exact Nat.le_refl _
    | cons x t ih =>
      intro s
      rw [List.foldl_cons]
      have h1 := ih (bookT f s x)
      have h2 := noteV_len s.1 (f x) (s.2 : Nat)
      simp only [List.length_cons, bookT] at h1 ⊢
      omega
  have := h xs ([], 0)
  simpa [bookL, bookS] using this
theorem Try.intsT : ElemT Try.prog 27 36 1 24 := ElemT.mk' (z := .slice none 0 0) Try.underlying27 (by kernel_rfl) rfl (by decide)
def zeroV : TV := ⟨[], [], none, 0, 0, none, 0, 0⟩
theorem zeroV_at (w : World) : TreeAt w zeroV := ⟨rfl, rfl, ⟨rfl, fun h => absurd h (by decide)⟩, ⟨rfl, fun h => absurd h (by decide)⟩, by decide, by decide⟩
theorem zeroV_ok : checkE zeroV = 0 := by kernel_rfl
/-- What Needs says of one rename: the first one that leaves the path that it fills. -/
def needL (es : List (ByteArray × Value)) (q : ByteArray) (i : Nat) : List Int := match getV es q with
  | some (.int .i64 j) => if j = i then [] else [j]
  | _ => []
/-- A list of numbers as it lies: none, or one. -/
def NeedAt (wr : World) (g : Nat) (v : Value) (l : List Int) : Prop := (l = [] ∧ v = .slice none 0 0) ∨ ∃ gb c j, l = [j] ∧ v = .slice (some ⟨gb, 0, none⟩) 1 c ∧ g < gb ∧ gb < wr.heap.size ∧ wr.cell? ⟨gb, 0, none⟩ = some (.int .i64 j)
def NeedsRes (xs : List Ren) (n : Nat) (w : World) (e : Ending) (w' : World) : Prop :=
  ∃ g c L, e = .returned (.tuple #[.slice (some ⟨g, 0, none⟩) n c, .int .i64 0]) ∧ RowAt w' g 0 L ∧ g < w'.heap.size ∧ L.length = n ∧ (∀ (k : Nat) (x : Ren), xs[k]? = some x → ∃ v, L[k]? = some v ∧ NeedAt w' g v (needL (bookL (·.p) xs) x.q k)) ∧ Below w.heap.size w w'
theorem NeedAt.keep {wr w' : World} {g : Nat} {v : Value} {l : List Int} {row : Option Nat} (h : NeedAt wr g v l) (hg : wr.grownBy w' row) (hr : row = none ∨ row = some g) : NeedAt w' g v l := by
  rcases h with h | ⟨gb, c, j, e1, e2, h1, h2, h3⟩
  · exact .inl h
  · refine .inr ⟨gb, c, j, e1, e2, h1, Nat.lt_of_lt_of_le h2 hg.size, ?_⟩
    rw [World.cell?_of_block (w := wr) (a := ⟨gb, 0, none⟩) (hg.block gb h2 (by rcases hr with rfl | rfl <;> simp; omega))]
    exact h3
theorem bookL_int (f : Ren → ByteArray) (xs : List Ren) : ∀ a v, getV (bookL f xs) a = some v → ∃ j, v = .int .i64 j := by
  have step : ∀ (es : List (ByteArray × Value)) p (i : Int), (∀ a v, (a, v) ∈ es → ∃ j, v = .int .i64 j) → ∀ a v, (a, v) ∈ noteV es p i → ∃ j, v = .int .i64 j := fun es p i h a v hm => by
    unfold noteV at hm
    split at hm
    · exact h a v hm
    · by_cases e : a = p
      · subst e
        unfold putV at hm
        split at hm
        · obtain ⟨y, hy, e2⟩ := List.mem_map.1 hm
          split at e2
          · injection e2 with _ e3; exact ⟨i, e3.symm⟩
          · rename_i hne; subst e2; exact absurd rfl hne
        · rcases List.mem_append.1 hm with h1 | h1
          · exact h a v h1
          · simp at h1; exact ⟨i, h1⟩
      · exact h a v ((putV_other e).1 hm)
  have all : ∀ (xs : List Ren) (s : List (ByteArray × Value) × Nat), (∀ a v, (a, v) ∈ s.1 → ∃ j, v = .int .i64 j) → ∀ a v, (a, v) ∈ (xs.foldl (bookT f) s).1 → ∃ j, v = .int .i64 j := fun xs => by
    induction xs with
    | nil => intro s h; exact h
    | cons x t ih => intro s h; rw [List.foldl_cons]; exact ih _ (step s.1 (f x) _ h)
  intro a v h
  exact all xs ([], 0) (fun a v h => by simp at h) a v (getV_some h)
def NeedCut (V : World) (g : Nat) (l : List Int) (v : Value) (wx : World) : Prop := ∃ A n c, v = .slice A n c ∧ n ≤ 1 ∧ NeedAt wx g v l ∧ Below V.heap.size V wx
def OutAt (base g k : Nat) (E : List (ByteArray × Value)) (xs : List Ren) (j : Nat) (wr : World) : Prop := ∃ L, wr.ownsRow base 36 1 (.slice (some ⟨g, 0, none⟩) k k) k L ∧ ∀ (i : Nat) (x : Ren), i < j → xs[i]? = some x → ∃ v, L[i]? = some v ∧ NeedAt wr g v (needL E x.q i)
theorem own_setc {w : World} {base e sz g n c i : Nat} {L : List Value} (h : w.ownsRow base e sz (.slice (some ⟨g, 0, none⟩) n c) n L) (v : Value) :
    (w.setCell ⟨g, i, none⟩ v).ownsRow base e sz (.slice (some ⟨g, 0, none⟩) n c) n (L.set i v) := by
  refine ⟨by rw [List.length_set]; exact h.1, ?_⟩
  rcases h.2 with ⟨h', _⟩ | ⟨g', cap, cur, hv, hg, hh, hnc, hcm, hcs, ht⟩
  · cases h'
  · injection hv with hA _ hC
    injection hA with hA
    injection hA with hA
    subst hA hC
    refine .inr ⟨g, c, cur.setIfInBounds i v, rfl, hg, heap_setCell_same w g i cur e v hh, hnc, hcm, by simpa using hcs, ?_⟩
    rw [Array.toList_setIfInBounds, List.take_set, ht]
theorem own_blkN {w : World} {base e sz g n c : Nat} {L : List Value} (h : w.ownsRow base e sz (.slice (some ⟨g, 0, none⟩) n c) n L) : ∃ cur, Blk w g e cur := by
  rcases h.2 with ⟨h', _⟩ | ⟨g', cap, cur, hv, hg, hh, _⟩
  · cases h'
  · injection hv with hA
    injection hA with hA
    injection hA with hA
    subst hA
    exact ⟨cur, hh⟩
theorem grown_setC (w : World) (a : Addr) (v : Value) : w.grownBy (w.setCell a v) (some a.block) :=
  ⟨rfl, rfl, rfl, by simp [World.setCell], fun k _ hne => heap_setCell_other w a k v fun e => hne (by rw [e])⟩
set_option maxRecDepth 100000 in
set_option maxHeartbeats 8000000 in
theorem needs_any (xs : List Ren) (A : Option Addr) (n c : Nat) (w : World) (hA : Sl w w.heap.size 5 A n (xs.flatMap Ren.list)) (hn : xs.length = n) (h0 : 0 < n) (h1 : n ≤ 1024) :
    Calls Try.prog 6 #[.agg #[.slice none 0 0, .slice none 0 0], .slice A n c] w (NeedsRes xs n w) := by
  have HA := Lib.hid hA; have HN := Lib.hid hn; clear hA hn
  have hT := Blk.new w 34 #[.slice none 0 0, .slice none 0 0]
  have hb := (Below.refl w.heap.size w).alloc (Nat.le_refl _) (.cells #[.slice none 0 0, .slice none 0 0] 34)
  have hck := fun W => check_any zeroV W (zeroV_at W)
  simp only [zeroV_ok] at hck
  unfold IntRes TV.val zeroV at hck
  have HCK := Lib.hid hck; clear hck
  have hmm := @run_makeMap Try.prog
  have b0 := hT.cell 0; have b1 := hT.cell 1
  have h1i : ¬ (1024 : Int) < n := by omega
  have hcf : ∀ (f : Fn) (w : World), (binOp .neq 44 (.func f #[] #[]) .nilFunc).run Try.prog w = .ok (.bool true) w := fun _ _ => rfl
  have hcn : ∀ (w : World), (binOp .neq 44 .nilFunc .nilFunc).run Try.prog w = .ok (.bool false) w := fun _ => rfl
  go_enter Try.func6, Try.ntmps6
  go_upto_region 6 with (go_at_call 8; refine (HCK.out _).mono ?_; rintro e w1 ⟨rfl, hb1⟩; replace hT := hT.below hb1 hT.lt; replace hb := hb.trans (hb1.mono hb.size))
  go_upto_region 8 with (fail)
  have hE := ((MapV.new (T := strK) w1).kept (World.grownBy_alloc _ (.map #[] 0) none) (by simp)).kept (World.grownBy_alloc _ (.map #[] 0) none) (by simp)
  have hF := (MapV.new (T := strK) (w1.alloc (.map #[] 0))).kept (World.grownBy_alloc _ (.map #[] 0) none) (by simp)
  have hD := MapV.new (T := strK) ((w1.alloc (.map #[] 0)).alloc (.map #[] 0))
  simp only [World.size_alloc] at hF hD
  have hs1 := hT.lt
  have hs2 := hb.size
  replace hT := ((hT.alloc (.map #[] 0)).alloc (.map #[] 0)).alloc (.map #[] 0)
  replace hb := ((hb.alloc hb.size (.map #[] 0)).alloc (by simp; omega) (.map #[] 0)).alloc (by simp; omega) (.map #[] 0)
  obtain ⟨W1, hW1⟩ : ∃ W, ((w1.alloc (.map #[] 0)).alloc (.map #[] 0)).alloc (.map #[] 0) = W := ⟨_, rfl⟩
  rw [hW1] at hE hF hD hT hb ⊢
  obtain ⟨bE, hbE⟩ : ∃ b, w1.heap.size = b := ⟨_, rfl⟩
  rw [hbE] at hE hF hD hs1 ⊢
  clear hW1 hbE hb1 b0 b1
  go_wp2
  go_loopw [41] (fun i wr => ∃ k : Nat, k ≤ n ∧ i = .int .i64 k ∧ Blk wr w.heap.size 34 #[.slice none 0 0, .slice none 0 0] ∧ MapV strK wr bE (bookL (·.p) (xs.take k)) ∧ MapV strK wr (bE + 1) (bookL (·.q) (xs.take k)) ∧ MapV strK wr (bE + 1 + 1) [] ∧ Below w.heap.size w wr) (fun i _ => n - (intOf i).toNat)
  case atStart => exact ⟨0, Nat.zero_le _, rfl, hT, hE, hF, hD, hb⟩
  case round =>
    clear hT hE hF hD hb
    obtain ⟨k, hk, rfl, hT, hE, hF, hD, hb⟩ := hrel
    by_cases hlt : k < n
    · have hki : (k : Int) < n := by omega
      obtain ⟨xb, xo, x, rfl, hxb, hx, hc⟩ := (HA.out.below hb (Nat.le_refl _)).get (f := Ren.list) (fun _ => rfl) HN.out hlt
      have c0 := hc 0 _ rfl
      have c1 := hc 1 _ rfl
      have c2 := hc 2 _ rfl
      have c3 := hc 3 _ rfl
      have c4 := hc 4 _ rfl
      simp only [Nat.add_zero] at c0 c1 c2 c3 c4
      have hsE := bookL_snoc (·.p) (xs.take k) x
      have hsF := bookL_snoc (·.q) (xs.take k) x
      have hlk : (xs.take k).length = k := by rw [List.length_take, HN.out]; omega
      rw [← take_snoc' hx, hlk] at hsE hsF
      have hlE := bookL_len (·.p) (xs.take k)
      have hlF := bookL_len (·.q) (xs.take k)
      rw [hlk] at hlE hlF
      have HSE := Lib.hid hsE; have HSF := Lib.hid hsF
      clear hsE hsF hlk hc hx
      obtain ⟨E, hEe⟩ : ∃ E, bookL (·.p) (xs.take k) = E := ⟨_, rfl⟩
      obtain ⟨F, hFe⟩ : ∃ F, bookL (·.q) (xs.take k) = F := ⟨_, rfl⟩
      rw [hEe] at hE hlE
      rw [hFe] at hF hlF
      have HEE := Lib.hid hEe; have HFE := Lib.hid hFe
      clear hEe hFe
      have HE := Lib.hid hE; have HF := Lib.hid hF; have HD := Lib.hid hD
      clear hE hF hD
      go_upto_region 11 with (fail)
      have hX := Blk.new wr 26 #[.int .i64 3, .string x.p, .string x.q, .int .i64 x.m, .int .i64 x.r]
      have hg0 := World.grownBy_alloc wr (.cells #[.int .i64 3, .string x.p, .string x.q, .int .i64 x.m, .int .i64 x.r] 26) none
      obtain ⟨V0, hV0⟩ : ∃ W, wr.alloc (.cells #[.int .i64 3, .string x.p, .string x.q, .int .i64 x.m, .int .i64 x.r] 26) = W := ⟨_, rfl⟩
      rw [hV0] at hX hg0 ⊢
      clear hV0 c0 c1 c2 c3 c4
      have x0 := hX.cell 0
      go_upto_region 12 with (first | (go_at_call 10; refine (rows_3 _).mono ?_; rintro e w3 ⟨rfl, hb3⟩; unfold fnB; have hZ := Blk.new w3 46 #[.nilFunc, .nilFunc, .nilFunc]) | (refine wpList_store_blk rfl 46 (.tmp 13) (.tmp 50) rfl hZ #[.func (.func 18) #[] #[], .func (.func 19) #[] #[], .nilFunc] rfl rfl (by kernel_rfl) rfl (by simp [Value.oneCell']) ?_; intro w7 hR hg7 hs7))
      have hg1 : wr.grownBy w7 none := grown_below ((below_grown (grown_trans (grown_trans hg0 (grown_below hb3 (Nat.le_refl _))) (World.grownBy_alloc w3 (.cells #[.nilFunc, .nilFunc, .nilFunc] 46) none)) (Nat.le_refl _) (fun g e => by cases e)).trans (below_grown hg7 (by have := hb3.size; have := hg0.size; simp; omega) (fun g e => by injection e with e; have := hb3.size; have := hg0.size; omega))) (Nat.le_refl _)
      have hXl := hX.lt
      replace hX := ((hX.below hb3 hX.lt).alloc (.cells #[.nilFunc, .nilFunc, .nilFunc] 46)).grown hg7 (fun e => by injection e with e; have := hb3.size; omega)
      obtain ⟨V1, hV1⟩ : ∃ W, W = w7 := ⟨_, rfl⟩
      obtain ⟨gR, hgR⟩ : ∃ g, w3.heap.size = g := ⟨_, rfl⟩
      obtain ⟨gX, hgX⟩ : ∃ g, wr.heap.size = g := ⟨_, rfl⟩
      rw [← hV1] at hX hR hg1 ⊢
      rw [hgR] at hR ⊢
      rw [hgX] at hX ⊢
      clear hV1 hg0 hb3 x0 hgR hgX hZ hg7 hs7 hXl
      have HE1 := Lib.hid (HE.out.kept hg1 (by simp)); have HF1 := Lib.hid (HF.out.kept hg1 (by simp)); have HD1 := Lib.hid (HD.out.kept hg1 (by simp))
      replace hT := hT.grown hg1 (by simp)
      replace hb := hb.trans (below_grown hg1 hb.size (fun g e => by cases e))
      clear hg1 HE HF HD
      have hxp := x.hp; have hxq := x.hq
      have r0 := hR.cell 0; have r1 := hR.cell 1; have x0 := hX.cell 0; have x1 := hX.cell 1; have x2 := hX.cell 2; have x3 := hX.cell 3; have x4 := hX.cell 4
      have hlE2 : E.length < maxLen := by unfold maxLen; omega
      have hlF2 : F.length < maxLen := by unfold maxLen; omega
      go_upto_region 16 with (first | (go_at_call 18; refine (here_any 3 x.p x.q x.m x.r _).mono ?_; rintro e w4 ⟨rfl, hb4⟩; have HE2 := Lib.hid (HE1.out.kept (grown_below hb4 (Nat.le_refl _) (row := none)) (by simp)); have HF2 := Lib.hid (HF1.out.kept (grown_below hb4 (Nat.le_refl _) (row := none)) (by simp)); have HD2 := Lib.hid (HD1.out.kept (grown_below hb4 (Nat.le_refl _) (row := none)) (by simp)); replace hT := hT.below hb4 hT.lt; replace hX := hX.below hb4 hX.lt; replace hR := hR.below hb4 hR.lt; replace hb := hb.trans (hb4.mono hb.size)) | (go_at_call 9; refine (note_any bE E x.p hxp k _ HE2.out hlE2).mono ?_; rintro e w5 ⟨⟨v, rfl⟩, hm5, hg5⟩))
      clear r0 r1 x0 x1 x2 x3 x4
      have hT5 := hT.grown hg5 (by have := HE2.out.lt; intro e; injection e with e; omega)
      have hX5 := hX.grown hg5 (fun e => by injection e with e; exact hX.ne_map HE2.out e)
      have hR5 := hR.grown hg5 (fun e => by injection e with e; exact hR.ne_map HE2.out e)
      have HF5 := Lib.hid (HF2.out.kept hg5 (fun e => by injection e with e; omega)); have HD5 := Lib.hid (HD2.out.kept hg5 (fun e => by injection e with e; omega)); have HE5 := Lib.hid hm5
      have hb5 := hb.trans (below_grown hg5 hb.size (fun g e => by injection e with e; omega))
      clear hT hX hR hb HF2 HD2 HE2 HE1 HF1 HD1 hg5 hm5 hb4
      have r0 := hR5.cell 1; have r1 := hR5.cell 1; have x0 := hX5.cell 0; have x1 := hX5.cell 1; have x2 := hX5.cell 2; have x3 := hX5.cell 3; have x4 := hX5.cell 4
      go_upto_region 18 with (first | (go_at_call 19; refine (there_any 3 x.p x.q x.m x.r _).mono ?_; rintro e w4 ⟨rfl, hb4⟩; have HE6 := Lib.hid (HE5.out.kept (grown_below hb4 (Nat.le_refl _) (row := none)) (by simp)); have HF6 := Lib.hid (HF5.out.kept (grown_below hb4 (Nat.le_refl _) (row := none)) (by simp)); have HD6 := Lib.hid (HD5.out.kept (grown_below hb4 (Nat.le_refl _) (row := none)) (by simp)); have hT6 := hT5.below hb4 hT5.lt; have hX6 := hX5.below hb4 hX5.lt; have hb6 := hb5.trans (hb4.mono hb5.size)) | (go_at_call 9; refine (note_any (bE + 1) F x.q hxq k _ HF6.out hlF2).mono ?_; rintro e w6 ⟨⟨v, rfl⟩, hm6, hg6⟩))
      clear r0 r1 x0 x1 x2 x3 x4
      have hT7 := hT6.grown hg6 (by have := HF6.out.lt; intro e; injection e with e; omega)
      have hX7 := hX6.grown hg6 (fun e => by injection e with e; exact hX6.ne_map HF6.out e)
      have HE7 := HE6.out.kept hg6 (fun e => by injection e with e; omega); have HD7 := HD6.out.kept hg6 (fun e => by injection e with e; omega)
      have hb7 := hb6.trans (below_grown hg6 hb6.size (fun g e => by injection e with e; omega))
      have HE8 := Lib.hid (show MapV strK w6 bE (bookL (·.p) (xs.take (k + 1))) by rw [HSE.out, HEE.out]; exact HE7)
      have HF8 := Lib.hid (show MapV strK w6 (bE + 1) (bookL (·.q) (xs.take (k + 1))) by rw [HSF.out, HFE.out]; exact hm6)
      have HD8 := Lib.hid HD7
      clear HE7 HD7 hm6 HE6 HF6 HD6 HE5 HF5 HD5 hT5 hX5 hR5 hb5 hT6 hX6 hb6 hg6
      have x0 := hX7.cell 0
      go_wp2
      go_roundw
      case rel => exact ⟨k + 1, by omega, by go_num, hT7, HE8.out, HF8.out, HD8.out, hb7⟩
      case measure => simp [intOf]; omega
    · obtain rfl : k = n := by omega
      have hki : ¬ (k : Int) < k := by omega
      rw [List.take_of_length_le (by rw [HN.out]; exact Nat.le_refl _)] at hE hF
      obtain ⟨E, hEe⟩ : ∃ E, bookL (·.p) xs = E := ⟨_, rfl⟩
      rw [hEe] at hE
      have HEE := Lib.hid hEe
      have HE := Lib.hid hE; have HD := Lib.hid hD
      clear hE hF hD hEe
      go_upto_region 22 with (fail)
      have hg0 := World.grownBy_alloc wr (.map #[] 0) none
      obtain ⟨V0, hV0⟩ : ∃ W, wr.alloc (.map #[] 0) = W := ⟨_, rfl⟩
      rw [hV0] at hg0 ⊢
      clear hV0
      have hT0 := hT.grown hg0 (by simp)
      have hb0 := hb.trans (below_grown hg0 hb.size (fun g e => by cases e))
      have HE0 := Lib.hid (HE.out.kept hg0 (by simp)); have HD0 := Lib.hid (HD.out.kept hg0 (by simp))
      clear hT hb HE HD hg0
      have b0 := hT0.cell 0; have b1 := hT0.cell 1
      go_wp2
      go_loop [90] (fun v => v = .int .i64 0) (fun _ => 0)
      case atStart => rfl
      case round =>
        obtain rfl := hrel
        clear b0 b1
        go_upto_region 29 with (refine wpList_make_own rfl _ _ rfl Try.intsT rfl rfl (by omega) (by unfold maxLen; omega) (Nat.le_refl _) ?_; intro g w2 L ho2 hg2)
        have HE2 := Lib.hid (HE0.out.kept hg2 (by simp)); have HD2 := Lib.hid (HD0.out.kept hg2 (by simp))
        have hT2 := hT0.grown hg2 (by simp)
        have hb2 := hb0.trans (below_grown hg2 hb0.size (fun g e => by cases e))
        have hgb := (own_row ho2).2.1
        have hb0s := hb0.size
        have hgs := (own_row ho2).2.2.1
        have hEg : bE < g := Nat.lt_of_lt_of_le HE0.out.lt hgb
        have hDg : bE + 1 + 1 < g := Nat.lt_of_lt_of_le HD0.out.lt hgb
        have hO0 : OutAt V0.heap.size g k E xs 0 w2 := ⟨L, ho2, fun i x h => absurd h (Nat.not_lt_zero _)⟩
        clear HE0 HD0 hT0 hb0 hg2 ho2 hT2
        go_wp2
        go_loopw [113] (fun v wr => ∃ j : Nat, j ≤ k ∧ v = .int .i64 j ∧ OutAt V0.heap.size g k E xs j wr ∧ MapV strK wr bE E ∧ MapV strK wr (bE + 1 + 1) [] ∧ g < wr.heap.size ∧ Below w.heap.size w wr) (fun v _ => k - (intOf v).toNat)
        case atStart => exact ⟨0, Nat.zero_le _, rfl, hO0, HE2.out, HD2.out, hgs, hb2⟩
        case round =>
          clear hO0 HE2 HD2 hb2 hgs
          obtain ⟨j, hj, rfl, hO, hE, hD, hgs, hb⟩ := hrel
          have HO := Lib.hid hO; have HE := Lib.hid hE; have HD := Lib.hid hD
          clear hO hE hD
          by_cases hlt : j < k
          · have hki : (j : Int) < k := by omega
            obtain ⟨xb, xo, x, rfl, hxb, hx, hc⟩ := (HA.out.below hb (Nat.le_refl _)).get (f := Ren.list) (fun _ => rfl) HN.out hlt
            have c0 := hc 0 _ rfl
            have c1 := hc 1 _ rfl
            have c2 := hc 2 _ rfl
            have c3 := hc 3 _ rfl
            have c4 := hc 4 _ rfl
            simp only [Nat.add_zero] at c0 c1 c2 c3 c4
            have HX := Lib.hid hx
            clear hc hx
            go_upto_region 33 with (fail)
            have hX := Blk.new wr 26 #[.int .i64 3, .string x.p, .string x.q, .int .i64 x.m, .int .i64 x.r]
            have hg0 := World.grownBy_alloc wr (.cells #[.int .i64 3, .string x.p, .string x.q, .int .i64 x.m, .int .i64 x.r] 26) none
            obtain ⟨V1, hV1⟩ : ∃ W, wr.alloc (.cells #[.int .i64 3, .string x.p, .string x.q, .int .i64 x.m, .int .i64 x.r] 26) = W := ⟨_, rfl⟩
            rw [hV1] at hX hg0 ⊢
            clear hV1 c0 c1 c2 c3 c4
            have x0 := hX.cell 0
            go_upto_region 34 with (first | (go_at_call 10; refine (rows_3 _).mono ?_; rintro e w3 ⟨rfl, hb3⟩; unfold fnB; have hZ := Blk.new w3 46 #[.nilFunc, .nilFunc, .nilFunc]) | (refine wpList_store_blk rfl 46 (.tmp 22) (.tmp 124) rfl hZ #[.func (.func 18) #[] #[], .func (.func 19) #[] #[], .nilFunc] rfl rfl (by kernel_rfl) rfl (by simp [Value.oneCell']) ?_; intro w7 hR hg7 hs7))
            have hg1 : wr.grownBy w7 none := grown_below ((below_grown (grown_trans (grown_trans hg0 (grown_below hb3 (Nat.le_refl _))) (World.grownBy_alloc w3 (.cells #[.nilFunc, .nilFunc, .nilFunc] 46) none)) (Nat.le_refl _) (fun g e => by cases e)).trans (below_grown hg7 (by have := hb3.size; have := hg0.size; simp; omega) (fun g e => by injection e with e; have := hb3.size; have := hg0.size; omega))) (Nat.le_refl _)
            replace hX := ((hX.below hb3 hX.lt).alloc (.cells #[.nilFunc, .nilFunc, .nilFunc] 46)).grown hg7 (fun e => by injection e with e; have := hb3.size; have := hX.lt; omega)
            obtain ⟨V2, hV2⟩ : ∃ W, W = w7 := ⟨_, rfl⟩
            obtain ⟨gR, hgR⟩ : ∃ g, w3.heap.size = g := ⟨_, rfl⟩
            obtain ⟨gX, hgX⟩ : ∃ g, wr.heap.size = g := ⟨_, rfl⟩
            rw [← hV2] at hX hR hg1 ⊢
            rw [hgR] at hR ⊢
            rw [hgX] at hX ⊢
            have HE1 := Lib.hid (HE.out.kept hg1 (by simp)); have HD1 := Lib.hid (HD.out.kept hg1 (by simp))
            have hbv := below_grown hg1 (Nat.le_refl _) (fun g e => by cases e)
            clear hV2 hg0 hb3 x0 hgR hgX hZ hg7 hs7 HE HD hg1
            have hxq := x.hq
            have r1 := hR.cell 1; have x0 := hX.cell 0; have x1 := hX.cell 1; have x2 := hX.cell 2; have x3 := hX.cell 3; have x4 := hX.cell 4
            go_upto_region 37 with (go_at_call 19; refine (there_any 3 x.p x.q x.m x.r _).mono ?_; rintro e w4 ⟨rfl, hb4⟩)
            have HE2 := Lib.hid (HE1.out.kept (grown_below hb4 (Nat.le_refl _) (row := none)) (by simp)); have HD2 := Lib.hid (HD1.out.kept (grown_below hb4 (Nat.le_refl _) (row := none)) (by simp))
            have hX4 := hX.below hb4 hX.lt; have hR4 := hR.below hb4 hR.lt
            replace hbv := hbv.trans (hb4.mono hbv.size)
            obtain ⟨V4, hV4⟩ : ∃ W, W = w4 := ⟨_, rfl⟩
            rw [← hV4] at HE2 HD2 hX4 hR4 hbv ⊢
            clear hV4 r1 x0 x1 x2 x3 x4 hX hR HE1 HD1 hb4
            have hXl := hX4.lt; have hRl := hR4.lt
            have hgv : g < V4.heap.size := Nat.lt_of_lt_of_le hgs hbv.size
            go_cut [24] from 133 to 138 (fun v wx => NeedCut V4 g (needL E x.q j) v wx)
            case first =>
              cases hgq : getV E x.q with
              | none =>
                have hl : needL E x.q j = [] := by unfold needL; rw [hgq]
                have HG := Lib.hid hgq; clear hgq
                go_wp2_with (go_at_call 12; refine (need_stay bE E x.q hxq none 0 0 j _ HE2.out (.inl HG.out)).mono ?_; rintro e w5 ⟨rfl, hw⟩; rw [hw]; clear hw)
                go_meet
                exact ⟨none, 0, 0, rfl, by omega, .inl ⟨hl, rfl⟩, Below.refl _ _⟩
              | some v =>
                obtain ⟨i, rfl⟩ : ∃ i, v = .int .i64 i := bookL_int (·.p) xs x.q v (by rw [HEE.out]; exact hgq)
                by_cases hij : i = j
                · have hl : needL E x.q j = [] := by unfold needL; rw [hgq]; simp [hij]
                  subst hij
                  have HG := Lib.hid hgq; clear hgq
                  go_wp2_with (go_at_call 12; refine (need_stay bE E x.q hxq none 0 0 j _ HE2.out (.inr HG.out)).mono ?_; rintro e w5 ⟨rfl, hw⟩; rw [hw]; clear hw)
                  go_meet
                  exact ⟨none, 0, 0, rfl, by omega, .inl ⟨hl, rfl⟩, Below.refl _ _⟩
                · have hl : needL E x.q j = [i] := by unfold needL; rw [hgq]; simp [hij]
                  have HG := Lib.hid hgq; have HIJ := Lib.hid hij; clear hgq hij
                  go_wp2_with (go_at_call 12; refine (need_new bE E x.q hxq j i _ HE2.out HG.out HIJ.out).mono ?_; rintro e w5 ⟨⟨gb, cb, rfl, hge, hgl, hcell⟩, hb5⟩)
                  go_meet
                  exact ⟨_, 1, cb, rfl, by omega, .inr ⟨gb, cb, i, hl, rfl, by omega, hgl, hcell⟩, hb5⟩
            case rest =>
              obtain ⟨LA, ln, lc, rfl, hl1, hNA, hb5⟩ := hcut
              obtain ⟨V5, hV5⟩ : ∃ W, W = wc := ⟨_, rfl⟩
              rw [← hV5] at hNA hb5 ⊢
              have HE5 := Lib.hid (HE2.out.kept (grown_below hb5 (Nat.le_refl _) (row := none)) (by simp)); have HD5 := Lib.hid (HD2.out.kept (grown_below hb5 (Nat.le_refl _) (row := none)) (by simp))
              have hX5 := hX4.below hb5 hXl; have hR5 := hR4.below hb5 hRl
              have hbv5 := hbv.trans (hb5.mono hbv.size)
              have hwg : w.heap.size ≤ g := Nat.le_trans hb0s hgb
              obtain ⟨L', ho, hL⟩ := HO.out
              clear hV5 HE2 HD2 hX4 hR4 hbv hb5 hXl hRl HO
              cases hvl : validL x.q.data.toList with
              | false =>
                have HV := Lib.hid hvl; clear hvl
                go_upto_region 40 with (go_at_call 13; refine (valid_any x.q _ hxq).mono ?_; rintro e w6 ⟨rfl, hb6⟩; rw [HV.out])
                have hX6 := hX5.below hb6 hX5.lt; have hR6 := hR5.below hb6 hR5.lt
                have HE6 := Lib.hid (HE5.out.kept (grown_below hb6 (Nat.le_refl _) (row := none)) (by simp)); have HD6 := Lib.hid (HD5.out.kept (grown_below hb6 (Nat.le_refl _) (row := none)) (by simp))
                have hbw := hbv5.trans (hb6.mono hbv5.size)
                have hbn := hb6
                have x0 := hX6.cell 0; have r2 := hR6.cell 2
                go_upto_region 49 with (go_at_call 14; refine (sort_1 LA ln lc hl1 _).mono ?_; rintro e w8 ⟨⟨v, rfl⟩, hw⟩; rw [hw]; clear hw)
                have ho6 := own_keep ho (w' := w6) fun g' o e => by injection e with e; injection e with e; subst e; exact hbw.block g hgs
                obtain ⟨cur, hBk⟩ := own_blkN ho6
                have f0 := hBk.frozen j
                have q0 := (own_row ho6).1 j _ (List.getElem?_eq_getElem (by have := ho6.1; omega))
                rw [Nat.zero_add] at q0
                have hgk := hBk.lt
                go_wp2
                go_roundw
                case rel =>
                  refine ⟨j + 1, by omega, by go_num, ⟨_, own_setc ho6 _, fun i y hi hy => ?_⟩, HE6.out.kept (grown_setC _ _ _) (fun e => by injection e with e; simp at e; omega), HD6.out.kept (grown_setC _ _ _) (fun e => by injection e with e; simp at e; omega), by simp [World.setCell]; exact hgk, (hb.trans (hbw.mono hb.size)).setCell (p := ⟨g, j, none⟩) hwg _⟩
                  by_cases e : i = j
                  · subst e
                    have : y = x := by have h := HX.out; rw [hy] at h; exact Option.some.inj h
                    subst this
                    refine ⟨_, List.getElem?_set_self (by have := ho6.1; omega), ?_⟩
                    exact (hNA.keep (grown_below hbn (Nat.le_refl _) (row := none)) (.inl rfl)).keep (grown_setC _ _ _) (.inr rfl)
                  · obtain ⟨v, hv, hN2⟩ := hL i y (by omega) hy
                    refine ⟨v, by rw [List.getElem?_set_ne (fun h => e h.symm)]; exact hv, ?_⟩
                    exact (hN2.keep (grown_below hbw (Nat.le_refl _) (row := none)) (.inl rfl)).keep (grown_setC _ _ _) (.inr rfl)
                case measure => simp [intOf]; omega
              | true =>
                have HV := Lib.hid hvl; clear hvl
                have hpz : (parentB x.q).size ≤ 9223372036854775807 := Nat.le_trans (parentB_size _) hxq
                go_upto_region 40 with (first | (go_at_call 13; refine (valid_any x.q _ hxq).mono ?_; rintro e w6 ⟨rfl, hb6⟩; rw [HV.out]; have HD51 := Lib.hid (HD5.out.kept (grown_below hb6 (Nat.le_refl _) (row := none)) (by simp))) | (go_at_call 11; refine (parent_any x.q _ hxq).mono ?_; rintro e w9 ⟨rfl, hb9⟩; have HD52 := Lib.hid (HD51.out.kept (grown_below hb9 (Nat.le_refl _) (row := none)) (by simp))) | (go_at_call 12; refine (need_stay (bE + 1 + 1) [] (parentB x.q) hpz LA ln lc j _ HD52.out (.inl rfl)).mono ?_; rintro e w5 ⟨rfl, hw⟩; rw [hw]; clear hw))
                have hbn := hb6.trans (hb9.mono hb6.size)
                have hX6 := hX5.below hbn hX5.lt; have hR6 := hR5.below hbn hR5.lt
                have HE6 := Lib.hid (HE5.out.kept (grown_below hbn (Nat.le_refl _) (row := none)) (by simp)); have HD6 := Lib.hid (HD5.out.kept (grown_below hbn (Nat.le_refl _) (row := none)) (by simp))
                have hbw := hbv5.trans (hbn.mono hbv5.size)
                have x0 := hX6.cell 0; have r2 := hR6.cell 2
                go_upto_region 49 with (go_at_call 14; refine (sort_1 LA ln lc hl1 _).mono ?_; rintro e w8 ⟨⟨v, rfl⟩, hw⟩; rw [hw]; clear hw)
                have ho6 := own_keep ho (w' := w9) fun g' o e => by injection e with e; injection e with e; subst e; exact hbw.block g hgs
                obtain ⟨cur, hBk⟩ := own_blkN ho6
                have f0 := hBk.frozen j
                have q0 := (own_row ho6).1 j _ (List.getElem?_eq_getElem (by have := ho6.1; omega))
                rw [Nat.zero_add] at q0
                have hgk := hBk.lt
                go_wp2
                go_roundw
                case rel =>
                  refine ⟨j + 1, by omega, by go_num, ⟨_, own_setc ho6 _, fun i y hi hy => ?_⟩, HE6.out.kept (grown_setC _ _ _) (fun e => by injection e with e; simp at e; omega), HD6.out.kept (grown_setC _ _ _) (fun e => by injection e with e; simp at e; omega), by simp [World.setCell]; exact hgk, (hb.trans (hbw.mono hb.size)).setCell (p := ⟨g, j, none⟩) hwg _⟩
                  by_cases e : i = j
                  · subst e
                    have : y = x := by have h := HX.out; rw [hy] at h; exact Option.some.inj h
                    subst this
                    refine ⟨_, List.getElem?_set_self (by have := ho6.1; omega), ?_⟩
                    exact (hNA.keep (grown_below hbn (Nat.le_refl _) (row := none)) (.inl rfl)).keep (grown_setC _ _ _) (.inr rfl)
                  · obtain ⟨v, hv, hN2⟩ := hL i y (by omega) hy
                    refine ⟨v, by rw [List.getElem?_set_ne (fun h => e h.symm)]; exact hv, ?_⟩
                    exact (hN2.keep (grown_below hbw (Nat.le_refl _) (row := none)) (.inl rfl)).keep (grown_setC _ _ _) (.inr rfl)
                case measure => simp [intOf]; omega
          · obtain rfl : j = k := by omega
            have hki : ¬ (j : Int) < j := by omega
            obtain ⟨L', ho, hL⟩ := HO.out
            go_wp2
            refine bodyPost_ret (results_tmp2 rfl _ _ _) rfl ⟨g, j, L', rfl, (own_row ho).1, hgs, by have := ho.1; omega, fun i x hx => ?_, hb⟩
            obtain ⟨v, hv, hN2⟩ := hL i x (by have := (List.getElem?_eq_some_iff.1 hx).1; have := HN.out; omega) hx
            refine ⟨v, hv, ?_⟩
            rw [HEE.out]
            rcases hN2 with h | ⟨gb, cb, i2, e1, e2, h1, h2, h3⟩
            · exact .inl h
            · exact .inr ⟨gb, cb, i2, e1, e2, by omega, h2, h3⟩
end Go.Proofs.Ytdofehgoeppnmaa
