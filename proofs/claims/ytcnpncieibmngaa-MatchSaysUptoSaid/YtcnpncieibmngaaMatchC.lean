/- match.contents: the bytes of a tree's files, by their numbers. -/
import Derived.Test.YtcnpncieibmngaaMatchF
namespace Go.Proofs.Ytcnpncieibmngaa
open Go.RowKit Go.Shelf

attribute [local go_sem] Oper.semAt_some
/-- A file's number and its bytes. -/
abbrev Ent (ds : List ByteArray) := {x : Nat × ByteArray // ds[x.1]? = some x.2}
def encE {ds : List ByteArray} (x : Ent ds) : Array Value := #[.int .i64 x.1.1, .string x.1.2]
def ents (ds : List ByteArray) : List (Ent ds) := (List.finRange ds.length).map fun i => ⟨(i.1, ds[i.1]), List.getElem?_eq_getElem i.2⟩
theorem ents_len (ds : List ByteArray) : (ents ds).length = ds.length := by simp [ents]
theorem ents_get {ds : List ByteArray} {k : Nat} {d : ByteArray} (h : ds[k]? = some d) : (ents ds)[k]? = some ⟨(k, d), h⟩ := by
  obtain ⟨hk, rfl⟩ := List.getElem?_eq_some_iff.1 h
  simp [ents, hk]
set_option maxRecDepth 100000 in
set_option maxHeartbeats 2000000 in
/-- The closure of contents, for every loop body that keeps what lay below n₀. -/
theorem contents1_in (n : Nat) (hn : 1 ≤ n) (l Bs n₀ : Nat) (t : TV) (ds : List ByteArray) (J Jx : List (Ent ds) → World → Prop) (W : World) (hfl : t.files.length = t.fn) (hfm : t.fn ≤ 9223372036854775807) (hdl : ds.length = t.files.length) (hJ : AbidesFrom W.heap.size J) (hfs : Sl W n₀ 2 t.FA t.fn (t.files.flatMap FC.list))
    (hds : ∀ (k : Nat) (x : FC) (d : ByteArray), t.files[k]? = some x → ds[k]? = some d → d.size = x.n ∧ Sl W n₀ 1 x.A x.n (bytesC d)) (hn0 : n₀ ≤ W.heap.size)
    (hY : ∀ pre x W1, J pre W1 → pre.length < (ents ds).length → YieldAt Fence.wide (n - 1) Try.prog l (encE x) W1 fun e W' => (e = .returned (.bool true) ∧ J (pre ++ [x]) W' ∧ Below n₀ W1 W') ∨ (e = .returned (.bool false) ∧ Jx (pre ++ [x]) W'))
    (hc : Blk W Bs 25 t.cells) (h0 : J [] W) :
    CallsIn Fence.wide n Try.prog 48 #[.func (.yield l) #[] #[], .pointer (some ⟨Bs, 0, none⟩)] W (IterRes (ents ds) J Jx) := by
  obtain ⟨nodes, files, NA, nn, nc, FA, fn, fc⟩ := t
  simp only [TV.cells] at hfl hfm hdl hfs hds hc
  have Hfs := Lib.hid hfs; have Hfl := Lib.hid hfl; have Hdl := Lib.hid hdl; have Hds := Lib.hid hds
  clear hfs hfl hdl hds
  have b0 := hc.cell 0
  have b1 := hc.cell 1
  refine callsIn_of_wp Try.func48 rfl trivial ?_ rfl
  simp only [Try.ntmps48, List.size_toArray, List.length_cons, List.length_nil, Nat.reduceAdd, Nat.reduceSub, Array.replicate_succ, Array.replicate_zero, List.push_toArray, List.append_toArray, List.nil_append, List.cons_append]
  gi_wp2
  gi_loopw [8] (fun i wr => ∃ k : Nat, k ≤ fn ∧ i = .int .i64 k ∧ J ((ents ds).take k) wr ∧ Below n₀ W wr) (fun i _ => fn - (intOf i).toNat)
  case atStart => exact ⟨0, Nat.zero_le _, rfl, by rw [List.take_zero]; exact h0, Below.refl _ _⟩
  case round =>
    obtain ⟨k, hk, rfl, hJs, hb⟩ := hrel
    by_cases hlt : k < fn
    · have hki : (k : Int) < fn := by omega
      obtain ⟨xb, xo, x, rfl, hxb, hx, hcx⟩ := (Hfs.out.keep (Nat.le_refl _) hb.block).get FC.len Hfl.out hlt
      have c0 := hcx 0 _ rfl
      have c1 := hcx 1 _ rfl
      simp only [Nat.add_zero] at c0 c1
      obtain ⟨d, hd⟩ : ∃ d, ds[k]? = some d := ⟨_, List.getElem?_eq_getElem (by rw [Hdl.out, Hfl.out]; exact hlt)⟩
      obtain ⟨hdn, hdS⟩ := Hds.out k x d hx hd
      have hba := hb.alloc (Nat.le_trans hn0 hb.size) (.cells #[.int .i64 x.mode, .slice x.A x.n x.c] 47)
      have hcv := run_conv (c := x.c) (hdS.keep (Nat.le_refl _) hba.block) hdn
      have hget := ents_get hd
      have hts := take_snoc' hget
      have hklen : ((ents ds).take k).length < (ents ds).length := by rw [List.length_take, ents_len, Hdl.out, Hfl.out]; omega
      have hJa : J ((ents ds).take k) (wr.alloc (.cells #[.int .i64 x.mode, .slice x.A x.n x.c] 47)) := hJ _ _ _ none hJs (World.grownBy_alloc _ _ none) (fun r e => by cases e)
      obtain ⟨fn', tmps, assign, body, hy, hR⟩ := hY ((ents ds).take k) ⟨(k, d), hd⟩ _ hJa hklen
      simp only [encE] at hy
      have Hts := Lib.hid hts; have Hba := Lib.hid hba; have HR := Lib.hid hR
      clear hcx hx hdn hdS hget hts hba hJa hJs hR
      gi_wp2
      refine HR.out.mono ?_
      rintro e W3 (⟨rfl, hJ3, hk3⟩ | ⟨rfl, hJx3⟩)
      · gi_wp2
        go_roundw
        case rel => exact ⟨k + 1, by omega, by go_num, by rw [Hts.out]; exact hJ3, Hba.out.trans hk3⟩
        case measure => simp [intOf]; omega
      · gi_wp2
        refine bodyPost_ret (results_none rfl _ _ _) rfl ?_
        exact ⟨⟨_, rfl⟩, .inr ⟨_, ⟨(ents ds).drop (k + 1), by rw [← Hts.out, List.take_append_drop]⟩, hJx3⟩⟩
    · obtain rfl : k = fn := by omega
      have hfin : (ents ds).take k = ents ds := List.take_of_length_le (by rw [ents_len, Hdl.out, Hfl.out]; exact Nat.le_refl _)
      gi_wp2
      go_end0
      exact ⟨⟨_, rfl⟩, .inl ⟨_, hfin, hJs⟩⟩
set_option maxHeartbeats 1000000 in
theorem contents_in (n : Nat) (t : TV) (w : World) :
    CallsIn Fence.wide n Try.prog 33 #[t.val] w fun e w' => e = .returned (.func (.func 48) #[] #[.pointer (some ⟨w.heap.size, 0, none⟩)]) ∧ w' = w.alloc (.cells t.cells 25) := by
  unfold TV.val TV.cells
  refine callsIn_of_wp Try.func33 rfl trivial ?_ rfl
  simp only [Try.ntmps33, List.size_toArray, List.length_cons, List.length_nil, Nat.reduceAdd, Nat.reduceSub, Array.replicate_succ, Array.replicate_zero, List.push_toArray, List.append_toArray, List.nil_append, List.cons_append]
  gi_wp2
  go_ret
  exact ⟨rfl, rfl⟩
/-- 'contents(t)' tells the contents, where a round keeps what lay below n₀. -/
theorem contents_stops (n : Nat) (hn : 1 ≤ n) (Bs n₀ : Nat) (t : TV) (ds : List ByteArray) (w : World) (hfl : t.files.length = t.fn) (hfm : t.fn ≤ 9223372036854775807) (hdl : ds.length = t.files.length) (hfs : Sl w n₀ 2 t.FA t.fn (t.files.flatMap FC.list))
    (hds : ∀ (k : Nat) (x : FC) (d : ByteArray), t.files[k]? = some x → ds[k]? = some d → d.size = x.n ∧ Sl w n₀ 1 x.A x.n (bytesC d)) (hn0 : n₀ ≤ w.heap.size) (hc : Blk w Bs 25 t.cells) :
    SeqStopsK Fence.wide n Try.prog 48 #[.pointer (some ⟨Bs, 0, none⟩)] encE (Below n₀) (fun ys => ys = ents ds) (fun pre => pre <+: ents ds) (ents ds).length w := fun l J Jx W hW hJ _ hY h0 =>
  contents1_in n hn l Bs n₀ t ds J Jx W hfl hfm hdl hJ (hfs.keep (Nat.le_refl _) (fun k hk => hW.block k (by omega))) (fun k x d hx hd => ⟨(hds k x d hx hd).1, (hds k x d hx hd).2.keep (Nat.le_refl _) (fun k hk => hW.block k (by omega))⟩) (Nat.le_trans hn0 hW.size) hY (hc.below hW hc.lt) h0
end Go.Proofs.Ytcnpncieibmngaa
