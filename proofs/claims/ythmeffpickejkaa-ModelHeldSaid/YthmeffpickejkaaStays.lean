/- shuntlaw6.Stays. -/
import Derived.Test.YthmeffpickejkaaExact
namespace Go.Proofs.Ythmeffpickejkaa
open Go.RowKit

/-- A lent tree: one more behind each list. -/
structure LentAt (W : World) (u : TV) : Prop where
  nc : u.nn + 1 ≤ u.nc
  fc : u.fn + 1 ≤ u.fc
  node : ∃ b o, u.NA = some ⟨b, o, none⟩ ∧ b < W.heap.size ∧ W.cell? ⟨b, o + u.nn * 3 + 1, none⟩ = some (.int .i64 (-71))
  file : ∃ b o, u.FA = some ⟨b, o, none⟩ ∧ b < W.heap.size ∧ W.cell? ⟨b, o + u.fn * 2, none⟩ = some (.int .i64 (-72))
  data : ∀ (k : Nat) (x : FC), u.files[k]? = some x → x.n + 1 ≤ x.c ∧ ∃ b o, x.A = some ⟨b, o, none⟩ ∧ b < W.heap.size ∧ W.cell? ⟨b, o + x.n, none⟩ = some (.int .u8 167)
theorem LentAt.keep {W W' : World} {u : TV} (h : LentAt W u) (hb : Below W.heap.size W W') : LentAt W' u :=
  ⟨h.nc, h.fc, let ⟨b, o, e, hl, hc⟩ := h.node; ⟨b, o, e, Nat.lt_of_lt_of_le hl hb.size, (hb.cell (p := ⟨b, _, none⟩) hl).trans hc⟩,
    let ⟨b, o, e, hl, hc⟩ := h.file; ⟨b, o, e, Nat.lt_of_lt_of_le hl hb.size, (hb.cell (p := ⟨b, _, none⟩) hl).trans hc⟩,
    fun k x hk => ⟨(h.data k x hk).1, let ⟨b, o, e, hl, hc⟩ := (h.data k x hk).2; ⟨b, o, e, Nat.lt_of_lt_of_le hl hb.size, (hb.cell (p := ⟨b, _, none⟩) hl).trans hc⟩⟩⟩
theorem exact_parts {t u : TV} {ds es : List ByteArray} (h : exactB t u ds es = true) : t.nodes = u.nodes ∧ t.files.map (·.mode) = u.files.map (·.mode) ∧ ds = es := by
  rw [exactB, Bool.and_eq_true, Bool.and_eq_true, decide_eq_true_eq, decide_eq_true_eq, decide_eq_true_eq] at h
  exact h
set_option maxRecDepth 100000 in
set_option maxHeartbeats 4000000 in
theorem stays_yes (u t : TV) (es ds : List ByteArray) (w : World) (hL : LentAt w u) (hu : TreeD w u es) (ht : TreeD w t ds) (hx : exactB u t es ds = true) (hbd : t.nn ≤ 1000000) (hbf : t.fn ≤ 1000000) (hsm : ∀ x ∈ t.files, x.n ≤ 1000000000000) :
    Calls Try.prog 23 #[u.val, t.val] w fun e w' => e = .returned (.bool true) ∧ Below w.heap.size w w' := by
  obtain ⟨p1, p2, p3⟩ := exact_parts hx
  subst p3
  have hnn : u.nn = t.nn := by rw [← hu.tree.nl, ← ht.tree.nl, p1]
  have hfn : u.fn = t.fn := by
    have := congrArg List.length p2
    simp only [List.length_map] at this
    rw [← hu.tree.fl, ← ht.tree.fl, this]
  have hsame : ∀ (k : Nat) (x y : FC), u.files[k]? = some x → t.files[k]? = some y → x.n = y.n := fun k x y h1 h2 => by
    have hk : k < es.length := by rw [hu.dat.len]; exact (List.getElem?_eq_some_iff.1 h1).1
    have e1 := (hu.dat.at_ k x _ h1 (List.getElem?_eq_getElem hk)).1
    have e2 := (ht.dat.at_ k y _ h2 (List.getElem?_eq_getElem hk)).1
    omega
  have HU := Lib.hid hu; have HT := Lib.hid ht; have HX := Lib.hid hx; have HLn := Lib.hid hL; have HSM := Lib.hid hsame; have HSZ := Lib.hid hsm
  have hnc := hL.nc; have hfc := hL.fc
  obtain ⟨gb, go, hNA, hgl, hg⟩ := hL.node
  obtain ⟨fb, fo, hFA, hfl, hf⟩ := hL.file
  clear hu ht hx hL hsame hsm p1 p2
  obtain ⟨nodes, files, NA, nn, nc, FA, fn, fc⟩ := u
  obtain ⟨nodes', files', NB, mn, mc, FB, fm, md⟩ := t
  simp only at hnn hfn hnc hfc hNA hFA hg hf hbd hbf
  subst hNA hFA
  subst hnn hfn
  unfold TV.val
  have hB1 := (Blk.new w 25 #[.slice (some ⟨gb, go, none⟩) nn nc, .slice (some ⟨fb, fo, none⟩) fn fc]).alloc (.cells #[.slice NB nn mc, .slice FB fn md] 25)
  have hB2 := Blk.new (w.alloc (.cells #[.slice (some ⟨gb, go, none⟩) nn nc, .slice (some ⟨fb, fo, none⟩) fn fc] 25)) 25 #[.slice NB nn mc, .slice FB fn md]
  rw [World.size_alloc] at hB2
  have hb := ((Below.refl w.heap.size w).alloc (Nat.le_refl _) (.cells #[.slice (some ⟨gb, go, none⟩) nn nc, .slice (some ⟨fb, fo, none⟩) fn fc] 25)).alloc (by simp) (.cells #[.slice NB nn mc, .slice FB fn md] 25)
  have b0 := hB1.cell 0
  have b1 := hB1.cell 1
  have b2 := hB2.cell 0
  have b3 := hB2.cell 1
  go_enter Try.func23, Try.ntmps23
  go_upto_region 4 with (go_at_call 21; refine (exact_any ⟨nodes, files, some ⟨gb, go, none⟩, nn, nc, some ⟨fb, fo, none⟩, fn, fc⟩ ⟨nodes', files', NB, nn, mc, FB, fn, md⟩ es es _ (HU.out.keep hb) (HT.out.keep hb)).mono ?_; rintro e w3 ⟨rfl, hb3⟩; rw [HX.out]; replace hB1 := hB1.below hb3 hB1.lt; replace hB2 := hB2.below hb3 hB2.lt; replace hb := hb.trans (hb3.mono hb.size); have b0 := hB1.cell 0; have b1 := hB1.cell 1; have b2 := hB2.cell 0; have b3 := hB2.cell 1)
  have g1 := (hb.cell (p := ⟨gb, go + nn * 3 + 1, none⟩) hgl).trans hg
  have f1 := (hb.cell (p := ⟨fb, fo + fn * 2, none⟩) hfl).trans hf
  have hn1 : ((nn : Int) + 1) ≤ nc := by omega
  have hf1 : ((fn : Int) + 1) ≤ fc := by omega
  go_wp2
  clear g1 f1
  go_loop [8, 9] (fun i v => ∃ k : Nat, k ≤ fn ∧ i = .int .i64 k) (fun i _ => fn - (intOf i).toNat)
  case atStart => exact ⟨0, Nat.zero_le _, rfl⟩
  case round =>
    obtain ⟨k, hk, rfl⟩ := hrel
    by_cases hlt : k < fn
    · have hki : (k : Int) < fn := by omega
      obtain ⟨yb, yo, y, rfl, hyb, hy, hd⟩ := ((HT.out.tree.fs).keep (Nat.le_refl _) hb.block).get FC.len HT.out.tree.fl hlt
      obtain ⟨xb, xo, x, hxe, hxb, hx, hc⟩ := ((HU.out.tree.fs).keep (Nat.le_refl _) hb.block).get FC.len HU.out.tree.fl hlt
      injection hxe with hxe; injection hxe with q1 q2 _; subst q1 q2
      have d1 := hd 1 _ rfl
      have c1 := hc 1 _ rfl
      have hxn := HSM.out k x y hx hy
      have hym0 := HSZ.out y (List.mem_of_getElem? hy)
      obtain ⟨hxc, zb, zo, hxA, hzl, hz⟩ := HLn.out.data k x hx
      clear hd hc hx hy
      rw [hxA, hxn] at c1
      rw [hxn] at hz hxc
      have z1 := (hb.cell (p := ⟨zb, zo + y.n, none⟩) hzl).trans hz
      have HXA := Lib.hid hxA; have HXN := Lib.hid hxn
      clear hxA hxn hz
      have hym : y.n ≤ 1000000000000 := hym0
      have hy1 : (y.n : Int) + 1 ≤ x.c := by omega
      go_wp2
      go_round
      case rel => exact ⟨k + 1, by omega, by go_num⟩
      case measure => simp [intOf]; omega
    · obtain rfl : k = fn := by omega
      have hki : ¬ (k : Int) < k := by omega
      go_wp2
      go_ret
      exact ⟨rfl, hb⟩
end Go.Proofs.Ythmeffpickejkaa
