/- A record's body taken apart: plain. -/
import Derived.Test.YtgeiegjpnnbloaaDoorReadS
import Derived.Test.YtgeiegjpnnbloaaDoorQGet
namespace Go.Proofs.YtgeiegjpnnbloaaDoor

theorem byteB_cons (x : UInt8) (m : Nat) (j : Nat) : byteB ((x.toNat + 256 * m : Nat) : Int) (j + 1) = byteB (m : Int) j := by
  unfold byteB
  congr 2
  have h3 : ((2 : Int) ^ (8 * (j + 1))) = 256 * 2 ^ (8 * j) := by
    rw [show 8 * (j + 1) = 8 + 8 * j by omega, Int.pow_add]; rfl
  have h1 : ((x.toNat + 256 * m : Nat) : Int) / 256 = m := by have := x.toNat_lt; omega
  rw [h3, ← Int.ediv_ediv_of_nonneg (by decide), h1]
theorem byteB_zero (x : UInt8) (m : Nat) : byteB ((x.toNat + 256 * m : Nat) : Int) 0 = x := by
  unfold byteB
  have h1 : ((x.toNat + 256 * m : Nat) : Int) / 2 ^ (8 * 0) % 256 = (x.toNat : Nat) := by
    have := x.toNat_lt
    simp only [Nat.mul_zero, Int.pow_zero, Int.ediv_one]
    omega
  rw [h1, Int.toNat_natCast, UInt8.ofNat_toNat]
theorem leB_deN : ∀ (l : List UInt8), leB (deN l : Int) l.length = l
  | [] => rfl
  | x :: l => by
    have ih := leB_deN l
    unfold leB at ih ⊢
    rw [List.length_cons, List.range_succ_eq_map, List.map_cons, List.map_map]
    rw [deN, byteB_zero]
    congr 1
    exact (List.map_congr_left fun j _ => byteB_cons x (deN l) j).trans ih
theorem leB_take (l : List UInt8) (k : Nat) (h : k ≤ l.length) : leB (deN (l.take k) : Int) k = l.take k := by
  have := leB_deN (l.take k)
  rw [List.length_take, Nat.min_eq_left h] at this
  exact this
/-- What a body's bytes tell. -/
def bodyI (r : List UInt8) (p : Nat) : Ins := ⟨(deN (r.take 1) : Nat), ⟨((r.drop 6).take p).toArray⟩, ⟨(r.drop (7 + p)).toArray⟩, (deN ((r.drop 1).take 2) : Nat), (deN ((r.drop 3).take 2) : Nat)⟩
theorem body_yes {r : List UInt8} {p q : Nat} (hp : deN ((r.drop 5).take 1) = p) (hq : deN ((r.drop (6 + p)).take 1) = q) (h : 7 + p + q = r.length) (hm : r.length ≤ 255) : FitI (bodyI r p) ∧ bodyL (bodyI r p) = r := by
  have hps : (⟨((r.drop 6).take p).toArray⟩ : ByteArray).size = p := by show ((r.drop 6).take p).toArray.size = p; rw [List.size_toArray, List.length_take, List.length_drop]; omega
  have hds : (⟨(r.drop (7 + p)).toArray⟩ : ByteArray).size = q := by show (r.drop (7 + p)).toArray.size = q; rw [List.size_toArray, List.length_drop]; omega
  have l1 := deN_lt (r.take 1)
  have l2 := deN_lt ((r.drop 1).take 2)
  have l3 := deN_lt ((r.drop 3).take 2)
  rw [List.length_take, Nat.min_eq_left (by omega)] at l1
  rw [List.length_take, List.length_drop, Nat.min_eq_left (by omega)] at l2 l3
  refine ⟨⟨Int.natCast_nonneg _, ?_, Int.natCast_nonneg _, ?_, Int.natCast_nonneg _, ?_, ?_⟩, ?_⟩
  · show ((deN (r.take 1) : Nat) : Int) < 256; omega
  · show ((deN ((r.drop 1).take 2) : Nat) : Int) < 65536; omega
  · show ((deN ((r.drop 3).take 2) : Nat) : Int) < 65536; omega
  · show 7 + (⟨((r.drop 6).take p).toArray⟩ : ByteArray).size + (⟨(r.drop (7 + p)).toArray⟩ : ByteArray).size < 256
    rw [hps, hds]; omega
  · unfold bodyL bodyI
    simp only
    rw [hps, hds]
    have e1 := leB_take r 1 (by omega)
    have e2 := leB_take (r.drop 1) 2 (by rw [List.length_drop]; omega)
    have e3 := leB_take (r.drop 3) 2 (by rw [List.length_drop]; omega)
    have e4 := leB_take (r.drop 5) 1 (by rw [List.length_drop]; omega)
    have e5 := leB_take (r.drop (6 + p)) 1 (by rw [List.length_drop]; omega)
    rw [hp] at e4
    rw [hq] at e5
    rw [e1, e2, e3, e4, e5]
    have d1 : r.drop 1 = (r.drop 1).take 2 ++ r.drop 3 := by rw [show r.drop 3 = (r.drop 1).drop 2 by rw [List.drop_drop], List.take_append_drop]
    have d3 : r.drop 3 = (r.drop 3).take 2 ++ r.drop 5 := by rw [show r.drop 5 = (r.drop 3).drop 2 by rw [List.drop_drop], List.take_append_drop]
    have d5 : r.drop 5 = (r.drop 5).take 1 ++ r.drop 6 := by rw [show r.drop 6 = (r.drop 5).drop 1 by rw [List.drop_drop], List.take_append_drop]
    have d6 : r.drop 6 = (r.drop 6).take p ++ r.drop (6 + p) := by rw [show r.drop (6 + p) = (r.drop 6).drop p by rw [List.drop_drop], List.take_append_drop]
    have d7 : r.drop (6 + p) = (r.drop (6 + p)).take 1 ++ r.drop (7 + p) := by rw [show r.drop (7 + p) = (r.drop (6 + p)).drop 1 by rw [List.drop_drop]; congr 1; omega, List.take_append_drop]
    show r.take 1 ++ (r.drop 1).take 2 ++ (r.drop 3).take 2 ++ (r.drop 5).take 1 ++ (r.drop 6).take p ++ (r.drop (6 + p)).take 1 ++ r.drop (7 + p) = r
    simp only [List.append_assoc]
    rw [← d7, ← d6, ← d5, ← d3, ← d1, List.take_append_drop]
theorem body_parts {y : Ins} {r : List UInt8} (hf : FitI y) (h : bodyL y = r) : 7 + y.path.size + y.dst.size = r.length ∧ deN ((r.drop 5).take 1) = y.path.size ∧ deN ((r.drop (6 + y.path.size)).take 1) = y.dst.size := by
  have hl := bodyL_len y
  have hpd := hf.pd
  have hpl : y.path.data.toList.length = y.path.size := Array.length_toList
  have e : r = (leB y.op 1 ++ leB y.mode 2 ++ leB y.ref 2) ++ (leB (y.path.size : Int) 1 ++ (y.path.data.toList ++ (leB (y.dst.size : Int) 1 ++ y.dst.data.toList))) := by
    rw [← h]; unfold bodyL; simp only [List.append_assoc]
  have h5 : (leB y.op 1 ++ leB y.mode 2 ++ leB y.ref 2).length = 5 := by simp [leB_len]
  have d5 : r.drop 5 = leB (y.path.size : Int) 1 ++ (y.path.data.toList ++ (leB (y.dst.size : Int) 1 ++ y.dst.data.toList)) := by rw [e]; exact List.drop_left' h5
  have d6 : r.drop (6 + y.path.size) = leB (y.dst.size : Int) 1 ++ y.dst.data.toList := by
    rw [show 6 + y.path.size = 5 + (1 + y.path.size) by omega, ← List.drop_drop, d5, ← List.drop_drop, List.drop_left' (leB_len _ _), List.drop_left' hpl]
  refine ⟨by rw [← h]; omega, ?_, ?_⟩
  · rw [d5, List.take_left' (leB_len _ _), deN_leB]; omega
  · rw [d6, List.take_left' (leB_len _ _), deN_leB]; omega
end Go.Proofs.YtgeiegjpnnbloaaDoor
