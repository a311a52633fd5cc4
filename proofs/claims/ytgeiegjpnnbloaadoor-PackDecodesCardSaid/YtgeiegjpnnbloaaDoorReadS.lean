/- What pack.script reads out of bytes, and that it reads what Encode wrote. -/
import Derived.Test.YtgeiegjpnnbloaaDoorNumG
import Derived.Test.YtgeiegjpnnbloaaDoorCheckK
namespace Go.Proofs.YtgeiegjpnnbloaaDoor

theorem RS.get_app {a b : List UInt8} {k : Nat} {sh : Bool} (h : a.length = k) : (⟨a ++ b, sh⟩ : RS).get k = a := by
  unfold RS.get
  rw [if_pos (by show k ≤ (a ++ b).length; rw [List.length_append]; omega)]
  exact List.take_left' h
theorem RS.go_app {a b : List UInt8} {k : Nat} {sh : Bool} (h : a.length = k) : (⟨a ++ b, sh⟩ : RS).go k = ⟨b, sh⟩ := by
  unfold RS.go
  rw [if_pos (by show k ≤ (a ++ b).length; rw [List.length_append]; omega)]
  show (⟨(a ++ b).drop k, sh⟩ : RS) = _
  rw [List.drop_left' h]
theorem RS.num_app {b : List UInt8} {x k : Nat} {sh : Bool} (h : x < 256 ^ k) : (⟨leB (x : Int) k ++ b, sh⟩ : RS).num k = x := by
  unfold RS.num
  rw [RS.get_app (leB_len _ _), deN_leB, Nat.mod_eq_of_lt h]
def RS.ref (s : RS) : (Int × List UInt8) × RS := (((s.num 2 : Nat), (s.go 2).get 32), (s.go 2).go 32)
def readRefs : Nat → RS → List (Int × List UInt8) × RS
  | 0, s => ([], s)
  | m + 1, s => if s.sh = true then ([], s) else (s.ref.1 :: (readRefs m s.ref.2).1, (readRefs m s.ref.2).2)
def readIns : Nat → RS → List Ins × RS
  | 0, s => ([], s)
  | m + 1, s => if s.sh = true then ([], s) else (s.record.1 :: (readIns m s.record.2).1, (readIns m s.record.2).2)
theorem readRefs_sh (m : Nat) (l : List UInt8) : readRefs m ⟨l, true⟩ = ([], ⟨l, true⟩) := by cases m <;> rfl
theorem readIns_sh (m : Nat) (l : List UInt8) : readIns m ⟨l, true⟩ = ([], ⟨l, true⟩) := by cases m <;> rfl
theorem ref_app {r : Int × List UInt8} {b : List UInt8} (h1 : 0 ≤ r.1) (h2 : r.1 ≤ 65535) (h : r.2.length = 32) : (⟨refL r ++ b, false⟩ : RS).ref = (r, ⟨b, false⟩) := by
  obtain ⟨a, x⟩ := r
  obtain ⟨n, rfl⟩ := Int.eq_ofNat_of_zero_le h1
  simp only at h2 h
  unfold RS.ref refL
  simp only [List.append_assoc]
  rw [RS.num_app (by omega), RS.go_app (leB_len _ _), RS.get_app h, RS.go_app h]
theorem readRefs_app : ∀ {rs : List (Int × List UInt8)} {b : List UInt8}, (∀ r ∈ rs, 0 ≤ r.1 ∧ r.1 ≤ 65535) → (∀ r ∈ rs, r.2.length = 32) → readRefs rs.length ⟨rs.flatMap refL ++ b, false⟩ = (rs, ⟨b, false⟩)
  | [], b, _, _ => rfl
  | r :: rs, b, h1, h2 => by
    rw [List.length_cons, readRefs, if_neg (by simp), List.flatMap_cons, List.append_assoc, ref_app (h1 r List.mem_cons_self).1 (h1 r List.mem_cons_self).2 (h2 r List.mem_cons_self), readRefs_app (fun x hx => h1 x (List.mem_cons_of_mem _ hx)) fun x hx => h2 x (List.mem_cons_of_mem _ hx)]
/-- An instruction whose fields fit. -/
structure FitI (x : Ins) : Prop where
  o1 : 0 ≤ x.op
  o2 : x.op < 256
  m1 : 0 ≤ x.mode
  m2 : x.mode < 65536
  r1 : 0 ≤ x.ref
  r2 : x.ref < 65536
  pd : 7 + x.path.size + x.dst.size < 256
theorem record_app {x : Ins} {b : List UInt8} (h : FitI x) : (⟨recL x ++ b, false⟩ : RS).record = (x, ⟨b, false⟩) := by
  obtain ⟨op, p, d, md, rf⟩ := x
  obtain ⟨o1, o2, m1, m2, r1, r2, pd⟩ := h
  simp only at o1 o2 m1 m2 r1 r2 pd
  obtain ⟨op, rfl⟩ := Int.eq_ofNat_of_zero_le o1
  obtain ⟨md, rfl⟩ := Int.eq_ofNat_of_zero_le m1
  obtain ⟨rf, rfl⟩ := Int.eq_ofNat_of_zero_le r1
  have hbl := bodyL_len ⟨(op : Nat), p, d, (md : Nat), (rf : Nat)⟩
  simp only at hbl
  have hpl : p.data.toList.length = p.size := Array.length_toList
  have hdl : d.data.toList.length = d.size := Array.length_toList
  unfold RS.record recL
  rw [List.append_assoc, List.append_assoc]
  simp only
  rw [hbl, RS.num_app (x := 7 + p.size + d.size) (by omega), RS.go_app (leB_len _ _), RS.get_app hbl, RS.go_app hbl, RS.go_app (leB_len _ _)]
  have e0 : bodyL ⟨(op : Nat), p, d, (md : Nat), (rf : Nat)⟩ = leB (op : Int) 1 ++ (leB (md : Int) 2 ++ (leB (rf : Int) 2 ++ (leB (p.size : Int) 1 ++ (p.data.toList ++ (leB (d.size : Int) 1 ++ (d.data.toList ++ [])))))) := by
    unfold bodyL
    simp only [List.append_assoc, List.append_nil]
  rw [e0, RS.num_app (x := op) (by omega), RS.go_app (leB_len _ _), RS.num_app (x := md) (by omega), RS.go_app (leB_len _ _), RS.num_app (x := rf) (by omega), RS.go_app (leB_len _ _), RS.num_app (x := p.size) (by omega), RS.go_app (leB_len _ _), RS.get_app hpl, RS.go_app hpl, RS.num_app (x := d.size) (by omega), RS.go_app (leB_len _ _), RS.get_app hdl, RS.go_app hdl]
  rw [Array.toArray_toList, Array.toArray_toList]
  rfl
theorem readIns_app : ∀ {xs : List Ins} {b : List UInt8}, (∀ x ∈ xs, FitI x) → readIns xs.length ⟨xs.flatMap recL ++ b, false⟩ = (xs, ⟨b, false⟩)
  | [], b, _ => rfl
  | x :: xs, b, h => by
    rw [List.length_cons, readIns, if_neg (by simp), List.flatMap_cons, List.append_assoc, record_app (h x List.mem_cons_self), readIns_app fun y hy => h y (List.mem_cons_of_mem _ hy)]
theorem fit_ok {x : Ins} (h : okIns x) : FitI x := by
  obtain ⟨⟨a1, a2⟩, hm, hp, hd, hp9, hd0, hm0, hr0, hr6⟩ := h
  have hl : ∀ {q : ByteArray}, validL q.data.toList = true → q.size ≤ 100 := fun {q} hv => by
    rw [validL_cut] at hv
    have h1 := (Bool.and_eq_true _ _).mp hv |>.1
    have h2 : q.data.toList.length ≤ 100 := of_decide_eq_true h1
    rw [Array.length_toList] at h2
    exact h2
  have hpz : x.path.size ≤ 100 := by
    by_cases h9 : x.op = 9
    · rw [hp9 h9]; exact Nat.zero_le _
    · exact hl (hp h9)
  have hdz : x.dst.size ≤ 100 := by
    cases ht : toB x.op with
    | false => rw [hd0 ht]; exact Nat.zero_le _
    | true => exact hl (hd ht)
  have hmz : 0 ≤ x.mode ∧ x.mode ≤ 511 := by
    cases ht : modeB x.op with
    | false => rw [hm0 ht]; omega
    | true => exact hm ht
  have hrz : 0 ≤ x.ref ∧ x.ref ≤ 65534 := by
    by_cases h6 : x.op = 6
    · exact hr6 h6
    · rw [hr0 h6]; omega
  exact ⟨by omega, by omega, hmz.1, by omega, hrz.1, by omega, by omega⟩
/-- The head of a script's bytes: the numbers and what is left. -/
structure HeadR (l : List UInt8) (frm goal : List UInt8) (pb pi n m : Nat) (s7 : RS) : Prop where
  frm : ((⟨l, false⟩ : RS).go 5).get 32 = frm
  goal : (((⟨l, false⟩ : RS).go 5).go 32).get 32 = goal
  pb : ((((⟨l, false⟩ : RS).go 5).go 32).go 32).num 4 = pb
  pi : (((((⟨l, false⟩ : RS).go 5).go 32).go 32).go 4).num 4 = pi
  n : ((((((⟨l, false⟩ : RS).go 5).go 32).go 32).go 4).go 4).num 2 = n
  m : (((((((⟨l, false⟩ : RS).go 5).go 32).go 32).go 4).go 4).go 2).num 2 = m
  s7 : (((((((⟨l, false⟩ : RS).go 5).go 32).go 32).go 4).go 4).go 2).go 2 = s7
theorem head_app {s : Scr} {T : List UInt8} (hf : s.frm.length = 32) (hg : s.goal.length = 32) (hb : okPart s.pb = true) (hi : okPart s.pi = true) (hil : s.il ≤ 65535) (hrl : s.rl ≤ 65535) : HeadR (headL s ++ T) s.frm s.goal s.pb.toNat s.pi.toNat s.il s.rl ⟨T, false⟩ := by
  unfold okPart at hb hi
  simp only [Bool.and_eq_true, decide_eq_true_eq] at hb hi
  obtain ⟨p, hp⟩ := Int.eq_ofNat_of_zero_le hb.1
  obtain ⟨q, hq⟩ := Int.eq_ofNat_of_zero_le hi.1
  have e : headL s ++ T = markL ++ (s.frm ++ (s.goal ++ (leB (p : Int) 4 ++ (leB (q : Int) 4 ++ (leB (s.il : Int) 2 ++ (leB (s.rl : Int) 2 ++ T)))))) := by
    unfold headL
    rw [hp, hq]
    simp only [List.append_assoc]
  rw [hp] at hb ⊢
  rw [hq] at hi ⊢
  rw [e]
  have hm : markL.length = 5 := rfl
  refine ⟨?_, ?_, ?_, ?_, ?_, ?_, ?_⟩
  · rw [RS.go_app hm, RS.get_app hf]
  · rw [RS.go_app hm, RS.go_app hf, RS.get_app hg]
  · rw [RS.go_app hm, RS.go_app hf, RS.go_app hg, RS.num_app (by omega)]; rfl
  · rw [RS.go_app hm, RS.go_app hf, RS.go_app hg, RS.go_app (leB_len _ _), RS.num_app (by omega)]; rfl
  · rw [RS.go_app hm, RS.go_app hf, RS.go_app hg, RS.go_app (leB_len _ _), RS.go_app (leB_len _ _), RS.num_app (by omega)]
  · rw [RS.go_app hm, RS.go_app hf, RS.go_app hg, RS.go_app (leB_len _ _), RS.go_app (leB_len _ _), RS.go_app (leB_len _ _), RS.num_app (by omega)]
  · rw [RS.go_app hm, RS.go_app hf, RS.go_app hg, RS.go_app (leB_len _ _), RS.go_app (leB_len _ _), RS.go_app (leB_len _ _), RS.go_app (leB_len _ _)]
end Go.Proofs.YtgeiegjpnnbloaaDoor
