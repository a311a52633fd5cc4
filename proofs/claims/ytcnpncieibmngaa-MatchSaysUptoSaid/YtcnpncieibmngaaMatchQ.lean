/- What match.Match says of two trees and a stock. -/
import Derived.Test.YtcnpncieibmngaaMatchW
import Derived.Test.YtcnpncieibmngaaCheck
namespace Go.Proofs.Ytcnpncieibmngaa
open Go.RowKit

/-- What Match says. -/
def matchE (s t : TV) (ds es sd : List ByteArray) : Int :=
  if checkE s ≠ 0 then checkE s else if checkE t ≠ 0 then checkE t else if stockE sd ≠ 0 then stockE sd else
    match upto3 s.nodes t.nodes ds es sd es.length with
    | some _ => 0
    | none => 32
def matchL (s t : TV) (ds es sd : List ByteArray) : List Src :=
  if checkE s ≠ 0 then [] else if checkE t ≠ 0 then [] else if stockE sd ≠ 0 then [] else
    match upto3 s.nodes t.nodes ds es sd es.length with
    | some o => o
    | none => []


theorem loose_modes {t u : TV} (h1 : u.nodes = t.nodes) (h2 : u.nn = t.nn) (h3 : u.fn = t.fn) (h4 : u.files.map (·.n) = t.files.map (·.n)) (hm : ∀ x ∈ u.files, okMode x.mode = true) (hl : looseE t = 0) : looseE u = 0 := by
  have hlong : anyLong u.files = anyLong t.files := by
    have e : ∀ fs : List FC, anyLong fs = (fs.map (·.n)).any (fun n => decide (8192 < n)) := fun fs => by unfold anyLong; rw [List.any_map]; rfl
    rw [e, e, h4]
  have hb : boundB u = boundB t := by unfold boundB; rw [h2, h3, hlong]
  unfold looseE at hl ⊢
  rw [hb, h1, h3]
  split at hl
  · cases hl
  · rename_i hb'
    rw [if_neg hb']
    split at hl
    · split at hl
      · rename_i hc
        rw [if_pos ⟨hc.1, List.all_eq_true.2 hm⟩]
      · cases hl
    · cases hl
theorem check_loose {t : TV} (h : checkE t = 0) : looseE t = 0 := by
  unfold checkE at h
  split at h
  · cases h
  · split at h
    · rename_i h1; exact absurd h h1
    · rename_i h1; exact Classical.byContradiction h1
theorem check_modes {t u : TV} (h1 : u.nodes = t.nodes) (h2 : u.nn = t.nn) (h3 : u.fn = t.fn) (h4 : u.files.map (·.n) = t.files.map (·.n)) (hm : ∀ x ∈ u.files, okMode x.mode = true) (hl : checkE t = 0) : checkE u = 0 := by
  have hu := loose_modes h1 h2 h3 h4 hm (check_loose hl)
  unfold checkE at hl ⊢
  rw [h2, h1]
  split at hl
  · cases hl
  · rename_i h0
    rw [if_neg h0, if_neg (by rw [hu]; simp)]
    rw [if_neg (by rw [check_loose (t := t) (by unfold checkE; rw [if_neg h0]; exact hl)]; simp)] at hl
    exact hl
end Go.Proofs.Ytcnpncieibmngaa
