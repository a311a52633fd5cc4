/- What the law MatchSays needs in plain words. -/
import Derived.Test.YtcnpncieibmngaaRFresh
import Derived.Test.YtcnpncieibmngaaStays
import Derived.Test.YtcnpncieibmngaaRMatch
namespace Go.Proofs.Ytcnpncieibmngaa
open Go.RowKit

theorem formB_same {u v : TV} (h1 : u.nodes = v.nodes) (h2 : u.fn = v.fn) (h3 : u.files.map (·.mode) = v.files.map (·.mode)) : formB u = formB v := by
  have e : ∀ fs : List FC, (fs.all fun x => okMode x.mode) = (fs.map (·.mode)).all okMode := fun fs => by rw [List.all_map]; rfl
  unfold formB
  rw [h1, h2, e, e, h3]
/-- A lent tree is right just if the tree is that it was lent from. -/
theorem lent_check {u t : TV} {ds : List ByteArray} {w w' : World} (hu : TreeD w u ds) (ht : TreeD w' t ds) (hx : exactB u t ds ds = true) : u.nodes = t.nodes ∧ checkE u = checkE t := by
  obtain ⟨p1, p2, _⟩ := exact_parts hx
  have hnn : u.nn = t.nn := by rw [← hu.tree.nl, ← ht.tree.nl, p1]
  have hfl : u.files.length = t.files.length := by have := congrArg List.length p2; simpa using this
  have hfn : u.fn = t.fn := by rw [← hu.tree.fl, ← ht.tree.fl, hfl]
  have hsz : ∀ {W : World} {x : TV}, TreeD W x ds → x.files.map (·.n) = ds.map (·.size) := fun {W x} hx => by
    apply List.ext_getElem?
    intro k
    rw [List.getElem?_map, List.getElem?_map]
    rcases hk : x.files[k]? with _ | f
    · have hkl : ds[k]? = none := by rw [List.getElem?_eq_none_iff] at hk ⊢; rw [hx.dat.len]; exact hk
      rw [hkl]; rfl
    · obtain ⟨d, hd, hdn, _⟩ := hx.dat.get hk
      rw [hd]; exact congrArg some hdn.symm
  have hn : u.files.map (·.n) = t.files.map (·.n) := by rw [hsz hu, hsz ht]
  have hlong : anyLong u.files = anyLong t.files := by
    have e : ∀ fs : List FC, anyLong fs = (fs.map (·.n)).any (fun n => decide (8192 < n)) := fun fs => by unfold anyLong; rw [List.any_map]; rfl
    rw [e, e, hn]
  have hb : boundB u = boundB t := by unfold boundB; rw [hnn, hfn, hlong]
  have hlo : looseE u = looseE t := by rw [looseE_form, looseE_form, hb, formB_same p1 hfn p2]
  refine ⟨p1, ?_⟩
  unfold checkE
  rw [hnn, hlo, p1]
/-- A row of bytes that a conversion has laid, whatever they are. -/
def BufAt (W : World) (g n : Nat) : Prop := ∃ cur : Array Value, W.heap[g]? = some (.cells cur 5 (cur.size, cur.size + 1)) ∧ n ≤ cur.size ∧ ∀ j, j < n → ∃ x : Int, cur[j]? = some (.int .u8 x)
theorem ConvAt.buf {W : World} {g cap : Nat} {d : ByteArray} (h : ConvAt W g cap d) : BufAt W g d.size := by
  obtain ⟨cur, hh, hc, ht⟩ := h.row
  refine ⟨cur, hh, hc, fun j hj => ?_⟩
  have h1 : (cur.toList.take d.size)[j]? = cur[j]? := by rw [List.getElem?_take_of_lt hj, Array.getElem?_toList]
  rw [ht] at h1
  rw [← h1]
  unfold bytesC
  rw [List.getElem?_map, List.getElem?_eq_getElem (by simp; exact hj)]
  exact ⟨_, rfl⟩
theorem BufAt.cell {W : World} {g n j : Nat} (h : BufAt W g n) (hj : j < n) : ∃ x : Int, W.cell? ⟨g, j, none⟩ = some (.int .u8 x) := by
  obtain ⟨cur, hh, hc, hx⟩ := h
  obtain ⟨x, e⟩ := hx j hj
  exact ⟨x, by simp only [World.cell?, hh]; simpa using e⟩
theorem BufAt.lt {W : World} {g n : Nat} (h : BufAt W g n) : g < W.heap.size := by
  obtain ⟨cur, hh, _⟩ := h
  exact (Array.getElem?_eq_some_iff.1 hh).1
theorem BufAt.frozen {W : World} {g n j : Nat} (h : BufAt W g n) (hj : j < n) : W.frozen? ⟨g, j, none⟩ = false := by
  obtain ⟨cur, hh, hc, hx⟩ := h
  simp only [World.frozen?, hh]
  simp
  omega
theorem BufAt.set {W : World} {g n j : Nat} {x : Int} (h : BufAt W g n) : BufAt (W.setCell ⟨g, j, none⟩ (.int .u8 x)) g n := by
  obtain ⟨cur, hh, hc, hx⟩ := h
  refine ⟨cur.setIfInBounds j (.int .u8 x), ?_, by simpa using hc, fun i hi => ?_⟩
  · have h2 : (cur.setIfInBounds j (.int .u8 x)).size = cur.size := by simp
    rw [h2]
    simp [World.setCell, Array.getElem?_modify, hh]
  · by_cases e : j = i
    · subst e
      exact ⟨x, by rw [Array.getElem?_setIfInBounds_self_of_lt (by omega)]⟩
    · obtain ⟨y, hy⟩ := hx i hi
      exact ⟨y, by rw [Array.getElem?_setIfInBounds_ne e]; exact hy⟩
theorem rmatch_any (s t : TV) (ds es : List ByteArray) (SA : Option Addr) (sn sc : Nat) (ss : List SC) (sd : List ByteArray) (w : World) (hs : TreeD w s ds) (ht : TreeD w t es) (hS : StockAt w SA sn ss sd) :
    Calls Try.prog 24 #[s.val, t.val, .slice SA sn sc] w (MatchRes (matchE s t ds es sd) (matchL s t ds es sd) w) := by
  by_cases h0 : (if checkE s ≠ 0 then checkE s else if checkE t ≠ 0 then checkE t else stockE sd) = 0
  · have c1 : checkE s = 0 := by
      by_cases h : checkE s = 0
      · exact h
      · rw [if_pos h] at h0; exact h0
    rw [if_neg (by simp [c1])] at h0
    have c2 : checkE t = 0 := by
      by_cases h : checkE t = 0
      · exact h
      · rw [if_pos h] at h0; exact h0
    rw [if_neg (by simp [c2])] at h0
    exact rmatch_main s t ds es SA sn sc ss sd w hs ht hS c1 c2 h0
  · have h1 : matchE s t ds es sd = (if checkE s ≠ 0 then checkE s else if checkE t ≠ 0 then checkE t else stockE sd) := by
      unfold matchE
      by_cases a : checkE s = 0
      · by_cases b : checkE t = 0
        · have c : stockE sd ≠ 0 := fun e => h0 (by simp [a, b, e])
          simp [a, b, c]
        · simp [a, b]
      · simp [a]
    have h2 : matchL s t ds es sd = [] := by
      unfold matchL
      by_cases a : checkE s = 0
      · by_cases b : checkE t = 0
        · have c : stockE sd ≠ 0 := fun e => h0 (by simp [a, b, e])
          simp [a, b, c]
        · simp [a, b]
      · simp [a]
    rw [h1, h2]
    exact rmatch_bad s t SA sn sc ss sd w hs.tree ht.tree hS _ rfl h0
/-- The rows that are still to be looked at. -/
structure RowsFrom (W : World) (base m : Nat) (A : Option Addr) (n c : Nat) (ss : List SC) (xs : List ByteArray) : Prop where
  len : ss.length = n
  dlen : xs.length = n
  own : W.ownsRow base 45 1 (.slice A n c) n (ss.flatMap SC.list)
  row : ∀ (k : Nat) (x : SC) (d : ByteArray), m ≤ k → ss[k]? = some x → xs[k]? = some d → ∃ g cap, x = ⟨some ⟨g, 0, none⟩, d.size, cap⟩ ∧ base ≤ g ∧ ConvAt W g cap d
  apart : ∀ (i j : Nat) (x y : SC), ss[i]? = some x → ss[j]? = some y → i ≠ j → ∀ g, blkOf x.A = some g → blkOf y.A ≠ some g
theorem CRows.rowsFrom {W : World} {base n c : Nat} {A : Option Addr} {ss : List SC} {xs : List ByteArray} (h : CRows W base A n c ss xs) : RowsFrom W base 0 A n c ss xs :=
  ⟨h.len, h.dlen, h.own, fun k x d _ => h.row k x d, h.apart⟩
theorem RowsFrom.next {W : World} {base m n c : Nat} {A : Option Addr} {ss : List SC} {xs : List ByteArray} (h : RowsFrom W base m A n c ss xs) : RowsFrom W base (m + 1) A n c ss xs :=
  ⟨h.len, h.dlen, h.own, fun k x d hk => h.row k x d (by omega), h.apart⟩
theorem RowsFrom.drew {W : World} {base m n c : Nat} {A : Option Addr} {ss : List SC} {xs : List ByteArray} (h : RowsFrom W base m A n c ss xs) : RowsFrom W.drew base m A n c ss xs :=
  ⟨h.len, h.dlen, own_drew h.own, fun k x d hk hx hd => by
    obtain ⟨g, cap, e, hb, hc⟩ := h.row k x d hk hx hd
    exact ⟨g, cap, e, hb, hc.keep rfl⟩, h.apart⟩
theorem RowsFrom.set {W : World} {base m n c i g dn cap bn j : Nat} {A : Option Addr} {ss : List SC} {xs : List ByteArray} (h : RowsFrom W base m A n c ss xs) (hx : ss[i]? = some ⟨some ⟨g, 0, none⟩, dn, cap⟩) (hi : i < m) (hB : BufAt W g bn) (v : Value) : RowsFrom (W.setCell ⟨g, j, none⟩ v) base m A n c ss xs := by
  obtain ⟨cur, hh, _⟩ := hB
  refine ⟨h.len, h.dlen, ?_, fun k x d hk hkx hd => ?_, h.apart⟩
  · refine own_keep h.own fun g' o e => ?_
    refine heap_setCell_other W ⟨g, j, none⟩ g' v fun e2 => ?_
    rcases h.own.2 with ⟨h', _⟩ | ⟨g2, cap2, cur2, hv, hg2, hh2, _⟩
    · injection h' with h'; rw [h'] at e; cases e
    · injection hv with hv
      rw [hv] at e
      injection e with e
      injection e with e
      have e3 : g' = g := e2
      rw [e, e3, hh] at hh2
      injection hh2 with hh2
      injection hh2 with _ hh2
      exact absurd hh2 (by decide)
  · obtain ⟨g', cap', e, hb, hc⟩ := h.row k x d hk hkx hd
    refine ⟨g', cap', e, hb, hc.keep (heap_setCell_other W ⟨g, j, none⟩ g' v fun e2 => ?_)⟩
    have e3 : g' = g := e2
    refine h.apart i k _ x hx hkx (by omega) g rfl ?_
    rw [e, e3]; rfl
theorem RowsFrom.below {W W' : World} {base m n c : Nat} {A : Option Addr} {ss : List SC} {xs : List ByteArray} (h : RowsFrom W base m A n c ss xs) (hb : Below W.heap.size W W') : RowsFrom W' base m A n c ss xs :=
  ⟨h.len, h.dlen, own_keep h.own fun g o e => hb.block g (own_lt2 (by rw [← e]; exact h.own)).2.1, fun k x d hk hx hd => by
    obtain ⟨g, cap, e, hb', hc⟩ := h.row k x d hk hx hd
    exact ⟨g, cap, e, hb', hc.keep (hb.block g hc.lt)⟩, h.apart⟩
theorem ORows.apart {W W' : World} {base n c : Nat} {A : Option Addr} {ss : List SC} {xs : List ByteArray} (h : ORows W base A n c ss xs) (hk : ∀ g, base ≤ g → W'.heap[g]? = W.heap[g]?) : ORows W' base A n c ss xs :=
  { h with
    own := own_keep h.own fun g o e => hk g (own_lt2 (by rw [← e]; exact h.own)).1
    row := fun k x d hx hd => ⟨(h.row k x d hx hd).1, own_keep (h.row k x d hx hd).2 fun g o e => hk g (own_lt2 (by rw [← e]; exact (h.row k x d hx hd).2)).1⟩ }
end Go.Proofs.Ytcnpncieibmngaa
