/- shuntlaw6.Big within the form's reach: what is not big is small. -/
import Derived.Test.YtdjlchbgdehccaaForm
import Derived.Test.YtdjlchbgdehccaaFormP
namespace Go.Proofs.Ytdjlchbgdehccaa
open Go.RowKit

/-- The first k are each at most m. -/
def UpTo {α : Type} (f : α → Nat) (l : List α) (k m : Nat) : Prop := ∀ (i : Nat) (x : α), i < k → l[i]? = some x → f x ≤ m
theorem UpTo.zero {α : Type} {f : α → Nat} (l : List α) (m : Nat) : UpTo f l 0 m := fun _ _ h _ => absurd h (Nat.not_lt_zero _)
theorem UpTo.succ {α : Type} {f : α → Nat} {l : List α} {k m : Nat} {x : α} (h : UpTo f l k m) (hx : l[k]? = some x) : UpTo f l (k + 1) (m + 1 + f x) := fun i y hi hy => by
  by_cases e : i = k
  · subst e
    rw [hx] at hy; injection hy with hy; subst hy; omega
  · have := h i y (by omega) hy; omega
theorem UpTo.all {α : Type} {f : α → Nat} {l : List α} {k m : Nat} (h : UpTo f l k m) (hk : l.length ≤ k) : ∀ x ∈ l, f x ≤ m := fun x hx => by
  obtain ⟨i, hi⟩ := List.getElem?_of_mem hx
  exact h i x (Nat.lt_of_lt_of_le (List.getElem?_eq_some_iff.1 hi).1 hk) hi
/-- What Big tells within the reach: a tree that is not big is small. -/
def BigRes2 (t : TV) (w : World) (e : Ending) (w' : World) : Prop := ∃ b : Bool, e = .returned (.bool b) ∧ (b = false → t.nn ≤ 300 ∧ t.fn ≤ 300 ∧ (∀ x ∈ t.nodes, x.path.size ≤ 40000) ∧ ∀ x ∈ t.files, x.n ≤ 40000) ∧ Below w.heap.size w w'
set_option maxHeartbeats 1000000 in
theorem lbig_reach (t : TV) (w : World) (h : TreeAt w t) (hrN : ∀ x ∈ t.nodes, x.path.size ≤ 140737488355328) (hrF : ∀ x ∈ t.files, x.n ≤ 140737488355328) : Calls Try.prog 19 #[t.val] w (BigRes2 t w) := by
  have hns := h.ns
  have hnl := h.nl
  have hfs := h.fs
  have hfl := h.fl
  have hnm := h.nm
  have hfm := h.fm
  obtain ⟨nodes, files, NA, nn, nc, FA, fn, fc⟩ := t
  simp only at hns hnl hfs hfl hnm hfm hrN hrF
  have HrN := Lib.hid hrN; have HrF := Lib.hid hrF
  clear hrN hrF
  have HS := Lib.hid hns; clear hns
  have Hn := Lib.hid hnl; clear hnl
  have HF := Lib.hid hfs; clear hfs
  have Hf := Lib.hid hfl; clear hfl h
  unfold TV.val
  have hB := Blk.new w 26 #[.slice NA nn nc, .slice FA fn fc]
  have b0 := hB.cell 0
  have b1 := hB.cell 1
  clear hB
  have HB := Lib.hid (fun (j : Nat) (hj : j < w.heap.size) => Below.heap_alloc w (.cells #[.slice NA nn nc, .slice FA fn fc] 26) j hj)
  go_enter Try.func19, Try.ntmps19
  go_wp2
  go_loop [3, 4] (fun v i => ∃ (k m : Nat), k ≤ nn ∧ i = .int .i64 k ∧ v = .int .i64 m ∧ m ≤ 140737488400000 ∧ UpTo (fun x : Node => x.path.size) nodes k m) (fun _ i => nn - (intOf i).toNat)
  case atStart => exact ⟨0, 0, Nat.zero_le _, rfl, rfl, by omega, UpTo.zero _ _⟩
  case round =>
    obtain ⟨k, m, hk, rfl, rfl, hm1, hup⟩ := hrel
    have HUp := Lib.hid hup; clear hup
    by_cases hlt : k < nn ∧ m ≤ 40000
    · obtain ⟨hlt, hm⟩ := hlt
      have hki : (k : Int) < nn := by omega
      have hmi : (m : Int) ≤ 40000 := by omega
      obtain ⟨b, o, x, rfl, hbl, hx, hc⟩ := (HS.out.keep (Nat.le_refl _) HB.out).get Node.len Hn.out hlt
      have c0 := hc 0 _ rfl
      simp only [Nat.add_zero] at c0
      have hxs := HrN.out x (List.mem_of_getElem? hx)
      have Hx := Lib.hid hx
      clear hc hx
      go_wp2
      go_round
      case rel => exact ⟨k + 1, m + 1 + x.path.size, by omega, by go_num, by go_num, by omega, HUp.out.succ Hx.out⟩
      case measure => simp [intOf]; omega
    · have hend : ((k : Int) < nn ∧ ¬ (m : Int) ≤ 40000) ∨ ¬ (k : Int) < nn := by omega
      have Hkn := Lib.hid (show m ≤ 40000 → k = nn by omega)
      clear hlt
      rcases hend with ⟨e1, e2⟩ | e1
      all_goals
        go_wp2
        go_loop [3, 5] (fun v i => ∃ (k q : Nat), k ≤ fn ∧ i = .int .i64 k ∧ v = .int .i64 q ∧ m ≤ q ∧ q ≤ 140737488400000 ∧ UpTo (fun x : FC => x.n) files k q) (fun _ i => fn - (intOf i).toNat)
        case atStart => exact ⟨0, m, Nat.zero_le _, rfl, rfl, Nat.le_refl _, hm1, UpTo.zero _ _⟩
        case round =>
          obtain ⟨j, q, hj, rfl, rfl, hmq, hq1, hup2⟩ := hrel
          have HUq := Lib.hid hup2; clear hup2
          by_cases hlt : j < fn ∧ q ≤ 40000
          · obtain ⟨hlt, hm⟩ := hlt
            try (exfalso; omega)
            all_goals
              have hki : (j : Int) < fn := by omega
              have hmi : (q : Int) ≤ 40000 := by omega
              obtain ⟨b, o, x, rfl, hbl, hx, hc⟩ := (HF.out.keep (Nat.le_refl _) HB.out).get FC.len Hf.out hlt
              have c1 := hc 1 _ rfl
              have hxs := HrF.out x (List.mem_of_getElem? hx)
              have Hx := Lib.hid hx
              clear hc hx
              go_wp2
              go_round
              case rel => exact ⟨j + 1, q + 1 + x.n, by omega, by go_num, by go_num, by omega, by omega, HUq.out.succ Hx.out⟩
              case measure => simp [intOf]; omega
          · have hend : ((j : Int) < fn ∧ ¬ (q : Int) ≤ 40000) ∨ ¬ (j : Int) < fn := by omega
            have Hjn := Lib.hid (show q ≤ 40000 → j = fn by omega)
            clear hlt
            rcases hend with ⟨e1, e2⟩ | e1
            all_goals
              by_cases f1 : (40000 : Int) < q
              · go_wp2
                go_ret
                exact ⟨true, rfl, (fun h => nomatch h), (Below.refl _ _).alloc (Nat.le_refl _) _⟩
              · try (exfalso; omega)
                all_goals
                  by_cases f2 : 300 < nn
                  · have f2' : (300 : Int) < nn := by omega
                    go_wp2
                    go_ret
                    exact ⟨true, rfl, (fun h => nomatch h), (Below.refl _ _).alloc (Nat.le_refl _) _⟩
                  · have f2' : ¬ (300 : Int) < nn := by omega
                    go_wp2
                    go_ret
                    exact ⟨decide ((300 : Int) < fn), rfl, fun h => ⟨by show nn ≤ 300; omega, by show fn ≤ 300; have := of_decide_eq_false h; omega, fun x hx => by have := HUp.out.all (by rw [Hn.out, Hkn.out (by omega)]; exact Nat.le_refl _) x hx; omega, fun x hx => by have := HUq.out.all (by rw [Hf.out, Hjn.out (by omega)]; exact Nat.le_refl _) x hx; omega⟩, (Below.refl _ _).alloc (Nat.le_refl _) _⟩
end Go.Proofs.Ytdjlchbgdehccaa
