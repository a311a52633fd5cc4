/- shuntlaw6.Big; shuntref6.Loose. -/
import Derived.Test.YtanaccoelifcpaaForm
import Derived.Test.YtanaccoelifcpaaFormP
namespace Go.Proofs.Ytanaccoelifcpaa
open Go.RowKit

/-- What Big tells: a bool; a tree that is not big has few nodes and files. -/
def BigRes (t : TV) (w : World) (e : Ending) (w' : World) : Prop := ∃ b : Bool, e = .returned (.bool b) ∧ (b = false → t.nn ≤ 300 ∧ t.fn ≤ 300) ∧ Below w.heap.size w w'
set_option maxHeartbeats 1000000 in
theorem lbig_any (t : TV) (w : World) (h : TreeAt w t) : Calls Try.prog 5 #[t.val] w (BigRes t w) := by
  have hns := h.ns
  have hnl := h.nl
  have hfs := h.fs
  have hfl := h.fl
  have hnm := h.nm
  have hfm := h.fm
  obtain ⟨nodes, files, NA, nn, nc, FA, fn, fc⟩ := t
  simp only at hns hnl hfs hfl hnm hfm
  have HS := Lib.hid hns; clear hns
  have Hn := Lib.hid hnl; clear hnl
  have HF := Lib.hid hfs; clear hfs
  have Hf := Lib.hid hfl; clear hfl h
  unfold TV.val
  have hB := Blk.new w 25 #[.slice NA nn nc, .slice FA fn fc]
  have b0 := hB.cell 0
  have b1 := hB.cell 1
  clear hB
  have HB := Lib.hid (fun (j : Nat) (hj : j < w.heap.size) => Below.heap_alloc w (.cells #[.slice NA nn nc, .slice FA fn fc] 25) j hj)
  go_enter Try.func5, Try.ntmps5
  go_wp2
  go_loop [3, 4] (fun v i => ∃ (k : Nat) (m : Int), k ≤ nn ∧ i = .int .i64 k ∧ v = .int .i64 m) (fun _ i => nn - (intOf i).toNat)
  case atStart => exact ⟨0, 0, Nat.zero_le _, rfl, rfl⟩
  case round =>
    obtain ⟨k, m, hk, rfl, rfl⟩ := hrel
    by_cases hlt : k < nn ∧ m ≤ 40000
    · obtain ⟨hlt, hm⟩ := hlt
      have hki : (k : Int) < nn := by omega
      obtain ⟨b, o, x, rfl, hbl, hx, hc⟩ := (HS.out.keep (Nat.le_refl _) HB.out).get Node.len Hn.out hlt
      have c0 := hc 0 _ rfl
      simp only [Nat.add_zero] at c0
      clear hc hx
      go_wp2
      go_round
      case rel => exact ⟨k + 1, _, by omega, by go_num, rfl⟩
      case measure => simp [intOf]; omega
    · have hend : ((k : Int) < nn ∧ ¬ m ≤ 40000) ∨ ¬ (k : Int) < nn := by omega
      clear hlt
      rcases hend with ⟨e1, e2⟩ | e1
      all_goals
        go_wp2
        go_loop [3, 5] (fun v i => ∃ (k : Nat) (m : Int), k ≤ fn ∧ i = .int .i64 k ∧ v = .int .i64 m) (fun _ i => fn - (intOf i).toNat)
        case atStart => exact ⟨0, _, Nat.zero_le _, rfl, rfl⟩
        case round =>
          obtain ⟨j, q, hj, rfl, rfl⟩ := hrel
          by_cases hlt : j < fn ∧ q ≤ 40000
          · obtain ⟨hlt, hm⟩ := hlt
            have hki : (j : Int) < fn := by omega
            obtain ⟨b, o, x, rfl, hbl, hx, hc⟩ := (HF.out.keep (Nat.le_refl _) HB.out).get FC.len Hf.out hlt
            have c1 := hc 1 _ rfl
            clear hc hx
            go_wp2
            go_round
            case rel => exact ⟨j + 1, _, by omega, by go_num, rfl⟩
            case measure => simp [intOf]; omega
          · have hend : ((j : Int) < fn ∧ ¬ q ≤ 40000) ∨ ¬ (j : Int) < fn := by omega
            clear hlt
            rcases hend with ⟨e1, e2⟩ | e1
            all_goals
              by_cases f1 : 40000 < q
              · go_wp2
                go_ret
                exact ⟨true, rfl, (fun h => nomatch h), (Below.refl _ _).alloc (Nat.le_refl _) _⟩
              · try (exfalso; omega)
                all_goals
                  by_cases f2 : 300 < nn
                  · have f2' : (300 : Int) < nn := by omega
                    go_wp2
                    go_ret
                    exact ⟨true, rfl, (fun h => nomatch h), (Below.refl _ _).alloc (Nat.le_refl _) _⟩
                  · have f2' : ¬ (300 : Int) < nn := by omega
                    go_wp2
                    go_ret
                    exact ⟨decide ((300 : Int) < fn), rfl, fun h => ⟨by show nn ≤ 300; omega, by show fn ≤ 300; have := of_decide_eq_false h; omega⟩, (Below.refl _ _).alloc (Nat.le_refl _) _⟩
end Go.Proofs.Ytanaccoelifcpaa
