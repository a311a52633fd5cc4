/- graph's book (note, need), graph.rows of a rename, and slices.Sort of at most one number. -/
import Derived.Test.YtdofehgoeppnmaaMapV
import Derived.Test.YtdofehgoeppnmaaMem
import Derived.Test.YtdofehgoeppnmaaOrd
import Derived.Test.YtdofehgoeppnmaaStore
namespace Go.Proofs.Ytdofehgoeppnmaa
open Go.RowKit

set_option maxRecDepth 100000 in
set_option maxHeartbeats 2000000 in
theorem len64_0 (w : World) : Calls Try.prog 41 #[.int .u64 0] w fun e w' => (∃ v, e = .returned (.int .i64 v)) ∧ w' = w := by
  go_enter Try.func41, Try.ntmps41
  go_wp2
  go_ret
  exact ⟨⟨_, rfl⟩, rfl⟩
set_option maxRecDepth 100000 in
set_option maxHeartbeats 2000000 in
theorem len64_1 (w : World) : Calls Try.prog 41 #[.int .u64 1] w fun e w' => (∃ v, e = .returned (.int .i64 v)) ∧ w' = w := by
  go_enter Try.func41, Try.ntmps41
  go_wp2
  go_ret
  exact ⟨⟨_, rfl⟩, rfl⟩
theorem len_0 (w : World) : Calls Try.prog 23 #[.int .u64 0] w fun e w' => (∃ v, e = .returned (.int .i64 v)) ∧ w' = w := by
  go_enter Try.func23, Try.ntmps23
  go_wp2_with (go_at_call 41; refine (len64_0 _).mono ?_; rintro e w1 ⟨⟨v, rfl⟩, hw⟩; rw [hw]; clear hw)
  go_ret
  exact ⟨⟨_, rfl⟩, rfl⟩
theorem len_1 (w : World) : Calls Try.prog 23 #[.int .u64 1] w fun e w' => (∃ v, e = .returned (.int .i64 v)) ∧ w' = w := by
  go_enter Try.func23, Try.ntmps23
  go_wp2_with (go_at_call 41; refine (len64_1 _).mono ?_; rintro e w1 ⟨⟨v, rfl⟩, hw⟩; rw [hw]; clear hw)
  go_ret
  exact ⟨⟨_, rfl⟩, rfl⟩
def NoRes (w : World) (e : Ending) (w' : World) : Prop := (∃ v, e = .returned v) ∧ w' = w
theorem isort_1 (A : Option Addr) (n c : Nat) (hn : n ≤ 1) (w : World) : Calls Try.prog 31 #[.slice A n c, .int .i64 0, .int .i64 n] w (NoRes w) := by
  have h1 : ¬ (1 : Int) < n := by omega
  go_enter Try.func31, Try.ntmps31
  go_wp2
  go_loop [6] (fun v => v = .int .i64 1) (fun _ => 0)
  case atStart => rfl
  case round =>
    obtain rfl := hrel
    go_wp2
    exact bodyPost_end (results_none rfl _ _ _) rfl ⟨⟨_, rfl⟩, rfl⟩
theorem pdq_1 (A : Option Addr) (n c : Nat) (hn : n ≤ 1) (l : Int) (w : World) : Calls Try.prog 22 #[.slice A n c, .int .i64 0, .int .i64 n, .int .i64 l] w (NoRes w) := by
  have h1 : (n : Int) ≤ 12 := by omega
  go_enter Try.func22, Try.ntmps22
  go_wp2
  go_loop [1, 2] (fun v u => v = .int .i64 0 ∧ u = .int .i64 n) (fun _ _ => 0)
  case atStart => exact ⟨rfl, rfl⟩
  case round =>
    obtain ⟨rfl, rfl⟩ := hrel
    go_wp2_with (go_at_call 31; refine (isort_1 A n c hn _).mono ?_; rintro e w2 ⟨⟨v, rfl⟩, hw⟩; rw [hw]; clear hw)
    exact bodyPost_ret (results_none rfl _ _ _) rfl ⟨⟨_, rfl⟩, rfl⟩
theorem sort_1 (A : Option Addr) (n c : Nat) (hn : n ≤ 1) (w : World) : Calls Try.prog 14 #[.slice A n c] w (NoRes w) := by
  rcases (show n = 0 ∨ n = 1 by omega) with rfl | rfl
  · go_enter Try.func14, Try.ntmps14
    go_wp2_with (first | (go_at_call 23; refine (len_0 _).mono ?_; rintro e w1 ⟨⟨v, rfl⟩, hw⟩; rw [hw]; clear hw) | (go_at_call 22; refine (pdq_1 A 0 c (by omega) _ _).mono ?_; rintro e w2 ⟨⟨v, rfl⟩, hw⟩; rw [hw]; clear hw))
    exact bodyPost_end (results_none rfl _ _ _) rfl ⟨⟨_, rfl⟩, rfl⟩
  · go_enter Try.func14, Try.ntmps14
    go_wp2_with (first | (go_at_call 23; refine (len_1 _).mono ?_; rintro e w1 ⟨⟨v, rfl⟩, hw⟩; rw [hw]; clear hw) | (go_at_call 22; refine (pdq_1 A 1 c (by omega) _ _).mono ?_; rintro e w2 ⟨⟨v, rfl⟩, hw⟩; rw [hw]; clear hw))
    exact bodyPost_end (results_none rfl _ _ _) rfl ⟨⟨_, rfl⟩, rfl⟩

theorem Try.mtBook : MT 41 9 3 (.int .i64 0) := ⟨Try.underlying41, fun w => by kernel_rfl⟩
theorem Try.intT : ElemT Try.prog 36 3 1 8 := ElemT.mk' (z := .int .i64 0) Try.underlying36 (by kernel_rfl) rfl (by decide)
/-- An action is noted at a path, if none is. -/
def noteV (es : List (ByteArray × Value)) (p : ByteArray) (i : Int) : List (ByteArray × Value) := if (getV es p).isSome = true then es else putV es p (.int .i64 i)
set_option maxRecDepth 100000 in
set_option maxHeartbeats 2000000 in
theorem note_any (b : Nat) (es : List (ByteArray × Value)) (p : ByteArray) (hp : p.size ≤ 9223372036854775807) (i : Int) (w : World) (h : MapV strK w b es) (hl : es.length < maxLen) :
    Calls Try.prog 9 #[.map (some b), .string p, .int .i64 i] w fun e w' => (∃ v, e = .returned v) ∧ MapV strK w' b (noteV es p i) ∧ w.grownBy w' (some b) := by
  have hok : strK.ok p := hp
  have HM := Lib.hid h; clear h
  unfold noteV
  cases hs : (getV es p).isSome with
  | true =>
    have HS := Lib.hid hs; clear hs
    go_enter Try.func9, Try.ntmps9
    go_wp2_with (refine wpList_mv_ok rfl Try.mtBook _ _ rfl rfl HM.out (T := strK) (q := p) rfl hok rfl HS.out ?_)
    exact bodyPost_end (results_none rfl _ _ _) rfl ⟨⟨_, rfl⟩, HM.out, rfl, rfl, rfl, Nat.le_refl _, fun _ _ _ => rfl⟩
  | false =>
    have HS := Lib.hid hs; clear hs
    go_enter Try.func9, Try.ntmps9
    go_wp2_with (first | (refine wpList_mv_ok rfl Try.mtBook _ _ rfl rfl HM.out (T := strK) (q := p) rfl hok rfl HS.out ?_) | (refine wpList_mv_put rfl Try.mtBook _ _ _ (.inl rfl) rfl HM.out (T := strK) (q := p) rfl hok rfl hl ?_; intro w2 hm2 hg2 hs2))
    exact bodyPost_end (results_none rfl _ _ _) rfl ⟨⟨_, rfl⟩, hm2, hg2⟩

set_option maxRecDepth 100000 in
set_option maxHeartbeats 2000000 in
/-- A look into a book that has nothing there, or one's own number: the list stays. -/
theorem need_stay (b : Nat) (es : List (ByteArray × Value)) (p : ByteArray) (hp : p.size ≤ 9223372036854775807) (A : Option Addr) (n c : Nat) (i : Int) (w : World) (h : MapV strK w b es) (hg : getV es p = none ∨ getV es p = some (.int .i64 i)) :
    Calls Try.prog 12 #[.map (some b), .slice A n c, .string p, .int .i64 i] w fun e w' => e = .returned (.slice A n c) ∧ w' = w := by
  have hok : strK.ok p := hp
  rcases hg with hg | hg
  · have h1 : (getV es p).getD (.int .i64 0) = .int .i64 0 := by rw [hg]; rfl
    have h2 : (getV es p).isSome = false := by rw [hg]; rfl
    have H1 := Lib.hid h1; have H2 := Lib.hid h2; clear h1 h2 hg
    go_enter Try.func12, Try.ntmps12
    go_wp2_with (refine wpList_mv_ok rfl Try.mtBook _ _ rfl rfl h (T := strK) (q := p) rfl hok H1.out H2.out ?_)
    go_ret
    exact ⟨rfl, rfl⟩
  · have h1 : (getV es p).getD (.int .i64 0) = .int .i64 i := by rw [hg]; rfl
    have h2 : (getV es p).isSome = true := by rw [hg]; rfl
    have h3 : (i != i) = false := by simp
    have H1 := Lib.hid h1; have H2 := Lib.hid h2; clear h1 h2 hg
    go_enter Try.func12, Try.ntmps12
    go_wp2_with (refine wpList_mv_ok rfl Try.mtBook _ _ rfl rfl h (T := strK) (q := p) rfl hok H1.out H2.out ?_)
    go_ret
    exact ⟨rfl, rfl⟩
theorem cont_0 (c : Nat) (x : Int) (w : World) : Calls Try.prog 21 #[.slice none 0 c, .int .i64 x] w fun e w' => e = .returned (.bool false) ∧ w' = w := by
  have hix : Calls Try.prog 30 #[.slice none 0 c, .int .i64 x] w fun e w' => e = .returned (.int .i64 (-1)) ∧ w' = w := by
    go_enter Try.func30, Try.ntmps30
    go_wp2
    go_loop [8] (fun v => v = .int .i64 0) (fun _ => 0)
    case atStart => rfl
    case round =>
      obtain rfl := hrel
      go_wp2
      go_ret
      exact ⟨rfl, rfl⟩
  have HX := Lib.hid hix; clear hix
  go_enter Try.func21, Try.ntmps21
  go_wp2_with (go_at_call 30; refine HX.out.mono ?_; rintro e w1 ⟨rfl, hw⟩; rw [hw]; clear hw)
  go_ret
  exact ⟨rfl, rfl⟩
theorem int_one (v : Int) : ∀ u ∈ (#[Value.int .i64 v] : Array Value).toList, u.oneCell' = true := by simp [Value.oneCell']
set_option maxRecDepth 100000 in
set_option maxHeartbeats 2000000 in
/-- A look into a book that has another number there: it is all that the list holds. -/
theorem need_new (b : Nat) (es : List (ByteArray × Value)) (p : ByteArray) (hp : p.size ≤ 9223372036854775807) (i j : Int) (w : World) (h : MapV strK w b es) (hg : getV es p = some (.int .i64 j)) (hij : j ≠ i) :
    Calls Try.prog 12 #[.map (some b), .slice none 0 0, .string p, .int .i64 i] w fun e w' => (∃ g c, e = .returned (.slice (some ⟨g, 0, none⟩) 1 c) ∧ w.heap.size ≤ g ∧ g < w'.heap.size ∧ w'.cell? ⟨g, 0, none⟩ = some (.int .i64 j)) ∧ Below w.heap.size w w' := by
  have hok : strK.ok p := hp
  have h1 : (getV es p).getD (.int .i64 0) = .int .i64 j := by rw [hg]; rfl
  have h2 : (getV es p).isSome = true := by rw [hg]; rfl
  have h3 : (j != i) = true := bne_iff_ne.2 hij
  have H1 := Lib.hid h1; have H2 := Lib.hid h2; have HI := Lib.hid hij; clear h1 h2 hg hij
  go_enter Try.func12, Try.ntmps12
  go_wp2_with (first | (refine wpList_mv_ok rfl Try.mtBook _ _ rfl rfl h (T := strK) (q := p) rfl hok H1.out H2.out ?_) | (go_at_call 21; refine (cont_0 0 j _).mono ?_; rintro e w1 ⟨rfl, hw⟩; rw [hw]; clear hw))
  have hB := Blk.new (w.alloc (.cells #[.int .i64 j] 3)) 3 (#[.int .i64 j] ++ Builtin.zeroCells #[.int .i64 0] ((Question.appendCap 1 0 3).cut (w.tape w.drawn (Question.appendCap 1 0 3)) - 1))
  have hb := ((Below.refl w.heap.size w).alloc (Nat.le_refl _) (.cells #[.int .i64 j] 3)).alloc (by simp) (.cells (#[.int .i64 j] ++ Builtin.zeroCells #[.int .i64 0] ((Question.appendCap 1 0 3).cut (w.tape w.drawn (Question.appendCap 1 0 3)) - 1)) 3)
  rw [World.size_alloc] at hB
  go_ret
  refine ⟨⟨_, _, rfl, by omega, by simp, ?_⟩, hb.drew⟩
  have h1 := hB.cell 0
  simp only [Array.getElem?_append, List.size_toArray, List.length_cons, List.length_nil] at h1
  exact h1
end Go.Proofs.Ytdofehgoeppnmaa
