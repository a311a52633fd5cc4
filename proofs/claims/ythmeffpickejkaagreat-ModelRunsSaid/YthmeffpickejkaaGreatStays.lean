/- shuntlaw6.Stays. -/
import Derived.Test.YthmeffpickejkaaGreatExact
namespace Go.Proofs.YthmeffpickejkaaGreat
open Go.RowKit

/-- A lent tree: one more behind each list. -/
structure LentAt (W : World) (u : TV) : Prop where
  nc : u.nn + 1 ≤ u.nc
  fc : u.fn + 1 ≤ u.fc
  node : ∃ b o, u.NA = some ⟨b, o, none⟩ ∧ b < W.heap.size ∧ W.cell? ⟨b, o + u.nn * 3 + 1, none⟩ = some (.int .i64 (-71))
  file : ∃ b o, u.FA = some ⟨b, o, none⟩ ∧ b < W.heap.size ∧ W.cell? ⟨b, o + u.fn * 2, none⟩ = some (.int .i64 (-72))
  data : ∀ (k : Nat) (x : FC), u.files[k]? = some x → x.n + 1 ≤ x.c ∧ ∃ b o, x.A = some ⟨b, o, none⟩ ∧ b < W.heap.size ∧ W.cell? ⟨b, o + x.n, none⟩ = some (.int .u8 167)
theorem LentAt.keep {W W' : World} {u : TV} (h : LentAt W u) (hb : Below W.heap.size W W') : LentAt W' u :=
  ⟨h.nc, h.fc, let ⟨b, o, e, hl, hc⟩ := h.node; ⟨b, o, e, Nat.lt_of_lt_of_le hl hb.size, (hb.cell (p := ⟨b, _, none⟩) hl).trans hc⟩,
    let ⟨b, o, e, hl, hc⟩ := h.file; ⟨b, o, e, Nat.lt_of_lt_of_le hl hb.size, (hb.cell (p := ⟨b, _, none⟩) hl).trans hc⟩,
    fun k x hk => ⟨(h.data k x hk).1, let ⟨b, o, e, hl, hc⟩ := (h.data k x hk).2; ⟨b, o, e, Nat.lt_of_lt_of_le hl hb.size, (hb.cell (p := ⟨b, _, none⟩) hl).trans hc⟩⟩⟩
theorem exact_parts {t u : TV} {ds es : List ByteArray} (h : exactB t u ds es = true) : t.nodes = u.nodes ∧ t.files.map (·.mode) = u.files.map (·.mode) ∧ ds = es := by
  rw [exactB, Bool.and_eq_true, Bool.and_eq_true, decide_eq_true_eq, decide_eq_true_eq, decide_eq_true_eq] at h
  exact h
end Go.Proofs.YthmeffpickejkaaGreat
