/- The chain of renames, and the names of the numbers. -/
import Derived.Test.YtdofehgoeppnmaaNeeds
import Derived.Test.YtdofehgoeppnmaaConv
namespace Go.Proofs.Ytdofehgoeppnmaa
open Go.RowKit

def lB (i : Nat) : ByteArray := ⟨#[102, UInt8.ofNat (48 + i / 1000), UInt8.ofNat (48 + i / 100 % 10), UInt8.ofNat (48 + i / 10 % 10), UInt8.ofNat (48 + i % 10)]⟩
theorem lB_size (i : Nat) : (lB i).size = 5 := rfl
theorem lB_inj {i j : Nat} (hi : i < 2000) (hj : j < 2000) (h : lB i = lB j) : i = j := by
  have h1 : (lB i).data.toList.map UInt8.toNat = (lB j).data.toList.map UInt8.toNat := by rw [h]
  simp only [lB, List.map_cons, List.map_nil, UInt8.toNat_ofNat', List.cons.injEq] at h1
  obtain ⟨_, h2, h3, h4, h5, _⟩ := h1
  omega
theorem l_str (k : Nat) : strOfNums [102, 48 + (k : Int) / 1000, 48 + (k : Int) / 100 % 10, 48 + (k : Int) / 10 % 10, 48 + (k : Int) % 10] = lB k := by
  have e0 : (48 + (k : Int) / 1000).toNat = 48 + k / 1000 := by omega
  have e1 : (48 + (k : Int) / 100 % 10).toNat = 48 + k / 100 % 10 := by omega
  have e2 : (48 + (k : Int) / 10 % 10).toNat = 48 + k / 10 % 10 := by omega
  have e3 : (48 + (k : Int) % 10).toNat = 48 + k % 10 := by omega
  simp only [strOfNums, List.map_cons, List.map_nil, e0, e1, e2, e3]
  rfl
def lR (i : Nat) : Ren := ⟨lB i, lB (i + 1), 0, 0, by rw [lB_size]; decide, by rw [lB_size]; decide⟩
def chain (n : Nat) : List Ren := (List.range n).map lR
theorem chain_succ (n : Nat) : chain (n + 1) = chain n ++ [lR n] := by simp [chain, List.range_succ]
theorem chain_len (n : Nat) : (chain n).length = n := by simp [chain]
theorem chain_get {n k : Nat} (h : k < n) : (chain n)[k]? = some (lR k) := by simp [chain, h]
theorem getV_putV (es : List (ByteArray × Value)) (a b : ByteArray) (v : Value) : getV (putV es a v) b = if a = b then some v else getV es b := by
  by_cases hm : a ∈ keysV es
  · unfold putV
    rw [if_pos hm]
    induction es with
    | nil => simp [keysV] at hm
    | cons x t ih =>
      obtain ⟨c, u⟩ := x
      by_cases hc : c = a
      · subst hc
        by_cases hb : c = b
        · subst hb; simp [getV]
        · rw [if_neg hb]
          by_cases ht : c ∈ keysV t
          · have := ih ht
            rw [if_neg hb] at this
            simp only [getV, List.map_cons, if_true, List.find?_cons, decide_eq_false hb] at this ⊢
            exact this
          · have hid : t.map (fun x => if x.1 = c then (c, v) else x) = t := by
              conv => rhs; rw [← List.map_id t]
              apply List.map_congr_left
              intro y hy
              rw [if_neg fun e => ht (List.mem_map.2 ⟨y, hy, e⟩)]; rfl
            simp only [getV, List.map_cons, if_true, List.find?_cons, decide_eq_false hb, hid]
      · have ht : a ∈ keysV t := by
          simp only [keysV, List.map_cons, List.mem_cons] at hm
          rcases hm with e | h
          · exact absurd e.symm hc
          · exact h
        have := ih ht
        simp only [getV, List.map_cons, if_neg hc, List.find?_cons] at this ⊢
        by_cases hb : c = b
        · subst hb
          rw [decide_eq_true rfl, if_neg fun e => hc e.symm]
        · rw [decide_eq_false hb]; exact this
  · unfold putV
    rw [if_neg hm]
    unfold getV
    rw [List.find?_append]
    by_cases hab : a = b
    · subst hab
      have : es.find? (fun x => decide (x.1 = a)) = none := by
        have := getV_none.2 hm
        simpa [getV] using this
      rw [this]; simp
    · rw [if_neg hab]
      simp [hab]
theorem chain_get_p : ∀ n k : Nat, n < 1500 → k < 1500 → getV (bookL (·.p) (chain n)) (lB k) = if k < n then some (.int .i64 (k : Int)) else none
  | 0, k, _, _ => rfl
  | n + 1, k, hn, hk => by
    have h0 := chain_get_p n n (by omega) (by omega)
    rw [if_neg (by omega)] at h0
    rw [chain_succ, bookL_snoc, chain_len]
    show getV (noteV _ (lB n) _) _ = _
    unfold noteV
    rw [h0]
    show getV (putV _ _ _) _ = _
    rw [getV_putV, chain_get_p n k (by omega) hk]
    by_cases e : n = k
    · subst e; rw [if_pos rfl, if_pos (by omega)]
    · rw [if_neg fun h => e (lB_inj (by omega) (by omega) h)]
      by_cases h : k < n
      · rw [if_pos h, if_pos (by omega)]
      · rw [if_neg h, if_neg (by omega)]
theorem chain_need {n k : Nat} (hn : n < 1400) (hk : k < n) : needL (bookL (·.p) (chain n)) (lR k).q k = if k + 1 < n then [((k + 1 : Nat) : Int)] else [] := by
  unfold needL
  show (match getV _ (lB (k + 1)) with | some (.int .i64 j) => if j = k then [] else [j] | _ => []) = _
  rw [chain_get_p n (k + 1) (by omega) (by omega)]
  by_cases h : k + 1 < n
  · rw [if_pos h, if_pos h]
    show (if ((k + 1 : Nat) : Int) = k then [] else [((k + 1 : Nat) : Int)]) = _
    rw [if_neg (by omega)]
  · rw [if_neg h, if_neg h]
theorem num13 (x : Int) (w : World) : Calls Try.prog 7 #[.int .i64 x] w fun e w' => e = .returned (.int .i64 x) ∧ w' = w := by
  go_enter Try.func7, Try.ntmps7
  go_wp2
  go_ret
  exact ⟨rfl, rfl⟩
set_option maxRecDepth 100000 in
set_option maxHeartbeats 2000000 in
theorem label_any (k : Nat) (hk : k < 1500) (w : World) : Calls Try.prog 5 #[.int .i64 k] w fun e w' => e = .returned (.string (lB k)) ∧ Below w.heap.size w w' := by
  have kc := conv_new [102, 48 + (k : Int) / 1000, 48 + (k : Int) / 100 % 10, 48 + (k : Int) / 10 % 10, 48 + (k : Int) % 10] w (n := 5) rfl
  rw [l_str] at kc
  simp only [List.map_cons, List.map_nil] at kc
  have hb := (Below.refl w.heap.size w).alloc (Nat.le_refl _) (.cells #[.int .u8 102, .int .u8 (48 + (k : Int) / 1000), .int .u8 (48 + (k : Int) / 100 % 10), .int .u8 (48 + (k : Int) / 10 % 10), .int .u8 (48 + (k : Int) % 10)] 5)
  go_enter Try.func5, Try.ntmps5
  go_wp2
  go_ret
  exact ⟨rfl, hb⟩
set_option maxRecDepth 100000 in
set_option maxHeartbeats 2000000 in
theorem needs_long (A : Option Addr) (n c : Nat) (w : World) (h1 : 1024 < n) :
    Calls Try.prog 6 #[.agg #[.slice none 0 0, .slice none 0 0], .slice A n c] w fun e w' => e = .returned (.tuple #[.slice none 0 0, .int .i64 2]) ∧ Below w.heap.size w w' := by
  have hT := Blk.new w 34 #[.slice none 0 0, .slice none 0 0]
  have hb := (Below.refl w.heap.size w).alloc (Nat.le_refl _) (.cells #[.slice none 0 0, .slice none 0 0] 34)
  have hck := fun W => check_any zeroV W (zeroV_at W)
  simp only [zeroV_ok] at hck
  unfold IntRes TV.val zeroV at hck
  have HCK := Lib.hid hck; clear hck
  have b0 := hT.cell 0; have b1 := hT.cell 1
  have h1i : (1024 : Int) < n := by omega
  go_enter Try.func6, Try.ntmps6
  go_wp2_with (go_at_call 8; refine (HCK.out _).mono ?_; rintro e w1 ⟨rfl, hb1⟩; replace hb := hb.trans (hb1.mono hb.size))
  exact bodyPost_ret (results_tmp2 rfl _ _ _) rfl ⟨rfl, hb⟩
def rA : Ren := ⟨⟨#[97]⟩, ⟨#[98]⟩, 0, 0, by decide, by decide⟩
def rB : Ren := ⟨⟨#[98]⟩, ⟨#[97]⟩, 0, 0, by decide, by decide⟩
theorem need_A : needL (bookL (·.p) [rA, rB]) rA.q 0 = [1] := by kernel_rfl
theorem need_B : needL (bookL (·.p) [rA, rB]) rB.q 1 = [0] := by kernel_rfl
def abCells : Array Value := #[.int .i64 3, .string ⟨#[97]⟩, .string ⟨#[98]⟩, .int .i64 0, .int .i64 0, .int .i64 3, .string ⟨#[98]⟩, .string ⟨#[97]⟩, .int .i64 0, .int .i64 0]
def NeedOne (wr : World) (_ : Nat) (v : Value) (j : Int) : Prop := ∃ gb c, v = .slice (some ⟨gb, 0, none⟩) 1 c ∧ wr.cell? ⟨gb, 0, none⟩ = some (.int .i64 j)
theorem NeedAt.one {wr : World} {g : Nat} {v : Value} {j : Int} (h : NeedAt wr g v [j]) : ∃ gb c, v = .slice (some ⟨gb, 0, none⟩) 1 c ∧ wr.cell? ⟨gb, 0, none⟩ = some (.int .i64 j) := by
  rcases h with ⟨h, _⟩ | ⟨gb, c, j', e, e2, _, _, hc⟩
  · cases h
  · injection e with e; subst e; exact ⟨gb, c, e2, hc⟩
theorem NeedAt.none {wr : World} {g : Nat} {v : Value} (h : NeedAt wr g v []) : v = .slice .none 0 0 := by
  rcases h with ⟨_, h⟩ | ⟨gb, c, j', e, _⟩
  · exact h
  · cases e
set_option maxRecDepth 100000 in
set_option maxHeartbeats 2000000 in
theorem alive13 (w : World) : Calls Try.prog 4 #[] w fun e w' => e = .returned (.bool true) ∧ Below w.heap.size w w' := by
  have hB := Blk.new w 26 abCells
  have hb := (Below.refl w.heap.size w).alloc (Nat.le_refl _) (.cells abCells 26)
  have hS := Sl.blk (B := w.heap.size + 1) (n := 2) (sz := 5) hB (L := [rA, rB].flatMap Ren.list) rfl rfl (by omega)
  have hN := needs_any [rA, rB] (some ⟨w.heap.size, 0, none⟩) 2 2 _ (by rw [World.size_alloc]; exact hS) rfl (by omega) (by omega)
  clear hS
  unfold abCells at hB hb hN
  have HN := Lib.hid hN; clear hN
  go_enter Try.func4, Try.ntmps4
  go_upto_region 2 with (go_at_call 6; refine HN.out.mono ?_; rintro e w2 ⟨g, c, L, rfl, hR, hg, hL, hE, hb2⟩)
  obtain ⟨v0, g0, h0⟩ := hE 0 _ rfl
  obtain ⟨v1, g1, h1⟩ := hE 1 _ rfl
  rw [need_A] at h0
  rw [need_B] at h1
  obtain ⟨b0, c0, rfl, q0⟩ := h0.one
  obtain ⟨b1, c1, rfl, q1⟩ := h1.one
  have r0 := hR 0 _ g0
  have r1 := hR 1 _ g1
  simp only [Nat.zero_add] at r0 r1
  have hbb := hb.trans (hb2.mono hb.size)
  clear hE h0 h1 hB hb hb2
  go_wp2_with (go_at_call 7; refine (num13 _ _).mono ?_; rintro e w7 ⟨rfl, hw⟩; rw [hw]; clear hw)
  go_ret
  exact ⟨rfl, hbb⟩
end Go.Proofs.Ytdofehgoeppnmaa
