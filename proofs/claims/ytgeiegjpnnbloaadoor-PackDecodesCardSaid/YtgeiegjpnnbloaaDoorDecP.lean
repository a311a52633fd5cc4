/- What Decode says, plain. -/
import Derived.Test.YtgeiegjpnnbloaaDoorQReadA
namespace Go.Proofs.YtgeiegjpnnbloaaDoor
open Go.ChangeShapes Go.WideShapes Go.ChangeAt Go.ChangeMaps Go.RowKit Go.Deep

/-- The bytes' checksum fits. -/
def crcGood (l : List UInt8) : Prop := deN ((l.drop (l.length - 4)).take 4) = (crcF (l.take (l.length - 4))).toNat
theorem EncOf.len85 {s : Scr} {l : List UInt8} (h : EncOf s l) : 85 ≤ l.length := by
  have hr := h.head.rest
  have e := congrArg List.length hr
  rw [List.length_drop, List.length_append, List.length_append, tlL_len] at e
  omega
theorem EncOf.crc {s : Scr} {l : List UInt8} (h : EncOf s l) : crcGood l := by
  have e : l = bodyE s ++ leB (crcF (bodyE s)).toNat 4 := h.enc.symm
  have hl : l.length - 4 = (bodyE s).length := by rw [e, List.length_append, leB_len]; omega
  unfold crcGood
  rw [hl, e, List.drop_left' rfl, List.take_left' rfl, List.take_of_length_le (by rw [leB_len]; exact Nat.le_refl _), deN_leB]
  have := (crcF (bodyE s)).isLt
  omega
theorem EncOf.same {s t : Scr} {l : List UInt8} (h : EncOf s l) (k : EncOf t l) : EqS s t := by
  have a := h.head
  have b := k.head
  have e1 : s.rl = t.rl := a.rl.symm.trans b.rl
  have e2 : s.il = t.il := a.il.symm.trans b.il
  have r1 := readRefs_app (rs := s.refs) (b := s.ins.flatMap recL ++ tlL s) (fun r hr => by have := h.ok.refs r hr; exact ⟨this.1, by omega⟩) h.wf.r32
  have r2 := readRefs_app (rs := t.refs) (b := t.ins.flatMap recL ++ tlL t) (fun r hr => by have := k.ok.refs r hr; exact ⟨this.1, by omega⟩) k.wf.r32
  rw [h.wf.rl, ← a.rest, e1] at r1
  rw [k.wf.rl, ← b.rest] at r2
  rw [r1] at r2
  injection r2 with hrefs h2
  injection h2 with h2 _
  have i1 := readIns_app (xs := s.ins) (b := tlL s) h.ok.fit
  have i2 := readIns_app (xs := t.ins) (b := tlL t) k.ok.fit
  rw [h.wf.il, e2, h2] at i1
  rw [k.wf.il] at i2
  rw [i1] at i2
  injection i2 with hins _
  exact ⟨a.frm.symm.trans b.frm, a.goal.symm.trans b.goal, a.pb.symm.trans b.pb, a.pi.symm.trans b.pi, hins, hrefs⟩
/-- What Decode says of bytes. -/
inductive DecE (l : List UInt8) (s : Scr) : Int → Prop
  | ok (h : EncOf s l) (hf : FitS s) : DecE l s 0
  | short (h : l.length < 85) (hs : s = zeroScr) : DecE l s 40
  | sum (h : 85 ≤ l.length) (hc : ¬ crcGood l) (hs : s = zeroScr) : DecE l s 42
  | no (h : 85 ≤ l.length) (hc : crcGood l) (hn : ∀ t, ¬ EncOf t l) (hs : s = zeroScr) : DecE l s 41
theorem zero_wf : WfS zeroScr := ⟨by simp [zeroScr, zero32], by simp [zeroScr, zero32], rfl, rfl, fun r hr => nomatch hr⟩
theorem DecE.same {l : List UInt8} {s t : Scr} {E F : Int} (h : DecE l s E) (k : DecE l t F) : E = F ∧ EqS s t := by
  have z : ∀ {s t : Scr}, s = zeroScr → t = zeroScr → EqS s t := fun h1 h2 => by subst h1 h2; exact ⟨rfl, rfl, rfl, rfl, rfl, rfl⟩
  cases h with
  | ok h hf =>
    cases k with
    | ok k _ => exact ⟨rfl, h.same k⟩
    | short k _ => have := h.len85; omega
    | sum _ k _ => exact (k h.crc).elim
    | no _ _ k _ => exact (k _ h).elim
  | short h hs =>
    cases k with
    | ok k _ => have := k.len85; omega
    | short _ ht => exact ⟨rfl, z hs ht⟩
    | sum k _ _ => omega
    | no k _ _ _ => omega
  | sum h hc hs =>
    cases k with
    | ok k _ => exact (hc k.crc).elim
    | short k _ => omega
    | sum _ _ ht => exact ⟨rfl, z hs ht⟩
    | no _ k _ _ => exact (hc k).elim
  | no h hc hn hs =>
    cases k with
    | ok k _ => exact (hn _ k).elim
    | short k _ => omega
    | sum _ k _ => exact (k hc).elim
    | no _ _ _ ht => exact ⟨rfl, z hs ht⟩
def DecOf (l : List UInt8) (w : World) (e : Ending) (w' : World) : Prop :=
  ∃ (s : Scr) (E : Int), e = .returned (.tuple #[.agg s.C, .int .i64 E]) ∧ ScrAt w' s ∧ Below w.heap.size w w' ∧ DecE l s E
theorem zero_at (w : World) : ScrAt w zeroScr := ⟨zero_wf.fl, zero_wf.gl, by decide, by decide, rfl, rfl, Sl.nil _ _ _ _, Sl.nil _ _ _ _, Nat.zero_le _, Nat.zero_le _, zero_wf.r32⟩
end Go.Proofs.YtgeiegjpnnbloaaDoor
