/- tree.Weight of a loose tree whose weights are small. -/
import Derived.Test.YtdjlchbgdehccaaWsum
namespace Go.Proofs.Ytdjlchbgdehccaa
open Go.RowKit Go.Shelf
attribute [local go_sem] Oper.semAt_some

section
variable {ops : Array Oper} {rest : List Oper} {o : Oper} {a : Act} {Q : Exit → Act → World → Prop} {w : World}
theorem wpList_kmk_look (hgd : o.guard = none) (m x : Operand) (ho : o.op = .lookup 74 m x false) {b n v : Nat} {f : List UInt8 → Int} {ks : List (List UInt8)} (hm : a.eval m = .map (some b)) (h : KMk w b n f ks) {s : ByteArray} (hx : a.eval x = .string s)
    (hs : s.size ≤ maxLen) (hv : f s.data.toList = v) (hK : wpList Try.prog ops Q rest (a.put o.dst (.int .i64 v)) w) : wpList Try.prog ops Q (o :: rest) a w := by
  refine wpList_plain hgd fun K hK' => ?_
  have hrun := h.look hs
  rw [hv] at hrun
  unfold Oper.wp execOp
  simp only [ho, hm, hx, Sem.run_bind, Sem.run_pure, Result.andThen_ok, hrun]
  exact hK' _ _ hK
theorem wpList_kmk_put (hgd : o.guard = none) (m x y : Operand) (ho : o.op = .mapUpdate 74 m x y) {b n : Nat} {f : List UInt8 → Int} {ks : List (List UInt8)} (hm : a.eval m = .map (some b)) (h : KMk w b n f ks) {s : ByteArray} (hx : a.eval x = .string s)
    (hs : s.size ≤ maxLen) (hn : n < maxLen) {v : Int} (hy : a.eval y = .int .i64 v) (hv : (Lit.int .i64 v).wf = true)
    (hK : ∀ w', KMk w' b (n + 1) (fun k => if k = s.data.toList then v else f k) (addKey ks s.data.toList) → w.grownBy w' (some b) → wpList Try.prog ops Q rest (a.put o.dst undef) w') : wpList Try.prog ops Q (o :: rest) a w := by
  refine wpList_plain hgd fun K hK' => ?_
  obtain ⟨w', hrun, r1, r2⟩ := h.put hs hn hv
  unfold Oper.wp execOp
  simp only [ho, hm, hx, hy, Sem.run_bind, Sem.run_pure, Result.andThen_ok, hrun]
  exact hK' _ _ (hK w' r1 r2)
theorem wpList_kmk_insert (hgd : o.guard = none) (m x y : Operand) (ho : o.op = .insert 74 m x y) {b n : Nat} {f : List UInt8 → Int} {ks : List (List UInt8)} (hm : a.eval m = .map (some b)) (h : KMk w b n f ks) {s : ByteArray} (hx : a.eval x = .string s)
    (hs : s.size ≤ maxLen) (hn : n < maxLen) {v : Int} (hy : a.eval y = .int .i64 v) (hv : (Lit.int .i64 v).wf = true)
    (hK : ∀ w', KMk w' b (n + 1) (fun k => if k = s.data.toList then v else f k) (addKey ks s.data.toList) → w.grownBy w' (some b) → wpList Try.prog ops Q rest (a.put o.dst undef) w') : wpList Try.prog ops Q (o :: rest) a w := by
  refine wpList_plain hgd fun K hK' => ?_
  obtain ⟨w', hrun, r1, r2⟩ := h.put hs hn hv
  unfold Oper.wp execOp
  simp only [ho, hm, hx, hy, Sem.run_bind, Sem.run_pure, Result.andThen_ok, hrun]
  exact hK' _ _ (hK w' r1 r2)
end
section
variable {F : Fence} {nF : Nat} {ops : Array Oper} {rest : List Oper} {o : Oper} {a : Act} {Q : Exit → Act → World → Prop} {w : World}
theorem wpListIn_kmk_look (hgd : o.guard = none) (m x : Operand) (ho : o.op = .lookup 74 m x false) {b n v : Nat} {f : List UInt8 → Int} {ks : List (List UInt8)} (hm : a.eval m = .map (some b)) (h : KMk w b n f ks) {s : ByteArray} (hx : a.eval x = .string s)
    (hs : s.size ≤ maxLen) (hv : f s.data.toList = v) (hK : wpListIn F nF Try.prog ops Q rest (a.put o.dst (.int .i64 v)) w) : wpListIn F nF Try.prog ops Q (o :: rest) a w := by
  refine wpListIn_plain hgd fun K hK' => ?_
  have hrun := h.look hs
  rw [hv] at hrun
  unfold Oper.wpIn
  refine ⟨by simp [Oper.about, ho], ?_⟩
  rw [Oper.semAt_plain F _ _ (by rw [ho]; intro c hc'; cases hc')]
  simp [execOp, ho, hm, hx, hrun, Result.andThen]
  exact hK' _ _ hK
theorem wpListIn_kmk_put (hgd : o.guard = none) (m x y : Operand) (ho : o.op = .mapUpdate 74 m x y) {b n : Nat} {f : List UInt8 → Int} {ks : List (List UInt8)} (hm : a.eval m = .map (some b)) (h : KMk w b n f ks) {s : ByteArray} (hx : a.eval x = .string s)
    (hs : s.size ≤ maxLen) (hn : n < maxLen) {v : Int} (hy : a.eval y = .int .i64 v) (hv : (Lit.int .i64 v).wf = true)
    (hK : ∀ w', KMk w' b (n + 1) (fun k => if k = s.data.toList then v else f k) (addKey ks s.data.toList) → w.grownBy w' (some b) → wpListIn F nF Try.prog ops Q rest (a.put o.dst undef) w') : wpListIn F nF Try.prog ops Q (o :: rest) a w := by
  refine wpListIn_plain hgd fun K hK' => ?_
  obtain ⟨w', hrun, r1, r2⟩ := h.put hs hn hv
  unfold Oper.wpIn
  refine ⟨by simp [Oper.about, ho], ?_⟩
  rw [Oper.semAt_plain F _ _ (by rw [ho]; intro c hc'; cases hc')]
  simp [execOp, ho, hm, hx, hy, hrun, Result.andThen]
  exact hK' _ _ (hK w' r1 r2)
end
theorem wf_small (v : Nat) (h : v ≤ 4294967296) : (Lit.int .i64 (v : Int)).wf = true := by
  have h1 : IntKind.i64.min = -9223372036854775808 := by decide
  have h2 : IntKind.i64.max = 9223372036854775807 := by decide
  simp only [Lit.wf, h1, h2, Bool.and_eq_true, decide_eq_true_eq]
  omega
def parK (x : Node) : List UInt8 := (parentB x.path).data.toList
def kidsN (l : List Node) (k : List UInt8) : Nat := (l.map parK).count k
def keysStep (ks : List (List UInt8)) (x : Node) : List (List UInt8) :=
  if x.file = -1 then addKey (addKey ks (parK x)) x.path.data.toList else addKey ks (parK x)
def keysOf (l : List Node) : List (List UInt8) := l.foldl keysStep [[]]
theorem keysOf_snoc (l : List Node) (x : Node) : keysOf (l ++ [x]) = keysStep (keysOf l) x := by simp [keysOf]
theorem kidsN_snoc (l : List Node) (x : Node) (k : List UInt8) : (kidsN (l ++ [x]) k : Int) = if k = parK x then (kidsN l (parK x) : Int) + 1 else kidsN l k := by
  simp only [kidsN, List.map_append, List.count_append, List.map_cons, List.map_nil]
  by_cases h : k = parK x
  · subst h; simp
  · rw [if_neg h, List.count_singleton]; simp [Ne.symm h]
theorem kidsN_le (l : List Node) (k : List UInt8) : kidsN l k ≤ l.length := by
  have := List.count_le_length (a := k) (l := l.map parK)
  simpa [kidsN] using this
theorem addKey_len (ks : List (List UInt8)) (k : List UInt8) : (addKey ks k).length ≤ ks.length + 1 := by unfold addKey; split <;> simp
theorem keysStep_len (ks : List (List UInt8)) (x : Node) : (keysStep ks x).length ≤ ks.length + 2 := by
  unfold keysStep
  have h1 := addKey_len ks (parK x)
  have h2 := addKey_len (addKey ks (parK x)) x.path.data.toList
  split <;> omega
theorem keys_foldl_len (l : List Node) : ∀ ks, (l.foldl keysStep ks).length ≤ ks.length + 2 * l.length := by
  induction l with
  | nil => intro ks; simp
  | cons x l ih => intro ks; have h1 := ih (keysStep ks x); have h2 := keysStep_len ks x; simp only [List.foldl_cons, List.length_cons]; omega
theorem keysOf_len (l : List Node) : (keysOf l).length ≤ 1 + 2 * l.length := by have := keys_foldl_len l [[]]; simpa [keysOf] using this
theorem loose0 {t : TV} (h : looseE t = 0) : t.nn ≤ 256 ∧ t.fn ≤ 256 ∧ ∀ f ∈ t.files, f.n ≤ 8192 := by
  unfold looseE at h
  cases hb : boundB t with
  | true => rw [hb] at h; simp at h
  | false =>
    unfold boundB at hb
    simp only [Bool.or_eq_false_iff, decide_eq_false_iff_not] at hb
    refine ⟨by omega, by omega, fun f hf => ?_⟩
    have := hb.2
    unfold anyLong at this
    rw [List.any_eq_false] at this
    have := this f hf
    simpa using this
set_option maxRecDepth 1000000 in
set_option maxHeartbeats 4000000 in
theorem weight_ok (t : TV) (w : World) (h : TreeAt w t) (hl : looseE t = 0) (hS : SmallSum (weightL (keysOf t.nodes) (kidsN t.nodes) t.files)) :
    Calls Try.prog 17 #[t.val] w (TollRes (s1 (weightL (keysOf t.nodes) (kidsN t.nodes) t.files)) (s2 (weightL (keysOf t.nodes) (kidsN t.nodes) t.files)) w) := by
  have hl0 := loose0 hl
  have hns := h.ns
  have hnl := h.nl
  have hfs := h.fs
  have hfl := h.fl
  have htold : toldN t = t.nodes := by simp [toldN, hl]
  obtain ⟨nodes, files, NA, nn, nc, FA, fn, fc⟩ := t
  simp only at hns hnl hfs hfl hl0 htold hS
  obtain ⟨hn256, hf256, hlen⟩ := hl0
  have Hns := Lib.hid hns; clear hns
  have Hnl := Lib.hid hnl; clear hnl
  have Hfs := Lib.hid hfs; clear hfs
  have Hfl := Lib.hid hfl; clear hfl
  have Hlen := Lib.hid hlen; clear hlen
  have Ht := Lib.hid h; clear h
  have Hl := Lib.hid hl; clear hl
  have HS := Lib.hid hS; clear hS
  have Htold := Lib.hid htold; clear htold
  have hb0 := Blk.new w 26 #[.slice NA nn nc, .slice FA fn fc]
  have HW0 : Below w.heap.size w (w.alloc (.cells #[.slice NA nn nc, .slice FA fn fc] 26)) := (Below.refl _ _).alloc (Nat.le_refl _) _
  unfold TV.val
  refine (callsIn_wide (n := 5)).1 ?_
  refine callsIn_of_wp_marks Try.func17 rfl trivial ?_ rfl
  simp only [Try.ntmps17, List.size_toArray, List.length_cons, List.length_nil, Nat.reduceAdd, Nat.reduceSub, Array.replicate_succ, Array.replicate_zero, List.push_toArray, List.append_toArray, List.nil_append, List.cons_append]
  refine wpIn_wide.2 ?_
  have hmm := @run_makeMap Try.prog
  go_wp2_with (first | (go_at_call 16; refine (loose_any ⟨nodes, files, NA, nn, nc, FA, fn, fc⟩ _ (Ht.out.keep HW0)).mono ?_; rintro e w1 ⟨rfl, hb1⟩; rw [Hl.out]; have hB1 := hb0.below hb1 (by simp); have d0 := hB1.cell 0; have d1 := hB1.cell 1; have HW1 := HW0.trans (hb1.mono (by simp))) | (refine wpList_kmk_insert (b := w1.heap.size) (n := 0) (f := fun _ => 0) (ks := []) (s := ⟨#[]⟩) (v := 0) rfl (.tmp 17) _ _ rfl rfl (KMk.new w1) rfl (Nat.zero_le _) (by unfold maxLen; omega) rfl (by decide) ?_; intro w2 hK2 hg2; have hg0 := hb1.size; simp only [World.size_alloc] at hg0; have hB2 := (hB1.alloc (.map #[] 0)).grown hg2 (by intro e; injection e with e; omega); have hB3 := hB2.alloc (.cells #[.map (some w1.heap.size)] 74); have d0 := hB3.cell 0; have d1 := hB3.cell 1; have HW2 := (HW1.alloc HW1.size (.map #[] 0)).trans (below_grown hg2 (by simp; omega) (fun g e => by injection e with e; omega))) | (go_at_call 44; refine (callsIn_wide.1 (nodes_in 0 ⟨nodes, files, NA, nn, nc, FA, fn, fc⟩ _)).mono ?_; rintro e w' ⟨rfl, rfl⟩))
  rename_i K hKc
  have hg3 := hg2.size
  simp only [World.size_alloc] at hg3
  have HW3 := HW2.alloc HW2.size (.cells #[.map (some w1.heap.size)] 74)
  have HW4 := HW3.alloc HW3.size (.cells (TV.cells ⟨nodes, files, NA, nn, nc, FA, fn, fc⟩) 26)
  have hw2 : w.heap.size ≤ w2.heap.size := HW2.size
  have hcell0 : (w2.alloc (.cells #[.map (some w1.heap.size)] 74)).cell? ⟨w2.heap.size, 0, none⟩ = some (.map (some w1.heap.size)) := (Blk.new w2 _ _).cell 0
  have hKM0 : KMk w2 w1.heap.size 1 (fun k => ((kidsN [] k : Nat) : Int)) (keysOf []) := by
    have h := hK2
    simp only [ite_self] at h
    exact h
  refine (wpIn_wide (n := 5)).1 ?_
  refine wpIn_rangeFunc_ownH rfl (by omega) (gf := 72) (lb := #[.pointer (some ⟨w2.heap.size + 1, 0, none⟩)]) rfl trivial (enters_of Try.func72 (by kernel_rfl) rfl)
    (nodes_stops 4 (by omega) (w2.heap.size + 1) w.heap.size ⟨nodes, files, NA, nn, nc, FA, fn, fc⟩ _ (Ht.out.keep HW4) (Hns.out.keep (Nat.le_refl _) (fun k hk => HW4.block k hk)) HW4.size (by have := Blk.new (w2.alloc (.cells #[.map (some w1.heap.size)] 74)) 26 (TV.cells ⟨nodes, files, NA, nn, nc, FA, fn, fc⟩); rwa [World.size_alloc] at this)) belowK_t (belowK_b HW4.size) (Below.refl _ _) (fun _ => rfl)
    (fun pre W => ((∃ cnt, cnt ≤ 1 + 2 * pre.length ∧ KMk W w1.heap.size cnt (fun k => ((kidsN pre k : Nat) : Int)) (keysOf pre)) ∧ W.cell? ⟨w2.heap.size, 0, none⟩ = some (.map (some w1.heap.size)) ∧ Blk W w.heap.size 26 #[.slice NA nn nc, .slice FA fn fc]) ∧ Below w.heap.size w W)
    (fun _ _ _ => False)
    (OwnFrom.and (fun s A B row hs hg hr => ⟨(by obtain ⟨cnt, h1, h2⟩ := hs.1; exact ⟨cnt, h1, h2.kept hg (fun e => by have := (hr _ e.symm).1; simp only [World.size_alloc] at this; omega)⟩), cell_kept hs.2.1 hg (fun r e => (hr r e).2), hs.2.2.grown hg (fun e => by have := (hr _ e.symm).1; simp only [World.size_alloc] at this; omega)⟩) (ownFrom_below (Nat.le_refl _) HW4.size))
    (fun c s A B row hs hg hr => hs.elim)
    ⟨⟨⟨1, by simp, (hKM0.kept (World.grownBy_alloc _ _ none) (by simp)).kept (World.grownBy_alloc _ _ none) (by simp)⟩, cell_alloc_l _ hcell0, hB3.alloc _⟩, HW4⟩
    (fun x a' W => ∃ nb, w2.heap.size < nb ∧ Blk W nb 29 #[.string x.path, .int .i64 x.file, .int .i64 x.mode] ∧ a' = { tmps := List.toArray (.agg #[.slice NA nn nc, .slice FA fn fc] :: .pointer (some ⟨w.heap.size, 0, none⟩) :: .complex .f64 0 0 :: .int .i64 0 :: .int .i64 0 :: .pointer (some ⟨w2.heap.size, 0, none⟩) :: .slice none 0 0 :: .pointer (some ⟨nb, 0, none⟩) :: undef :: undef :: undef :: undef :: .agg #[.slice NA nn nc, .slice FA fn fc] :: .int .i64 0 :: .int .i64 0 :: .bool false :: undef :: .map (some w1.heap.size) :: .map (some w1.heap.size) :: .agg #[.slice NA nn nc, .slice FA fn fc] :: .func (.func 72) #[] #[.pointer (some ⟨w2.heap.size + 1, 0, none⟩)] :: .agg #[.string x.path, .int .i64 x.file, .int .i64 x.mode] :: undef :: undef :: undef :: undef :: undef :: undef :: undef :: undef :: undef :: undef :: undef :: undef :: undef :: undef :: undef :: undef :: undef :: undef :: undef :: undef :: undef :: undef :: undef :: undef :: undef :: undef :: undef :: undef :: undef :: undef :: undef :: undef :: undef :: undef :: undef :: undef :: undef :: undef :: undef :: undef :: undef :: undef :: undef :: undef :: []), defers := [] })
    (fun x a' u W W' row hs hg hr => by
      obtain ⟨nb, h1, h2, h3⟩ := hs
      refine ⟨nb, h1, h2.grown hg (fun e => ?_), h3⟩
      obtain ⟨_, o, ho, hoc⟩ := hr nb e.symm
      rw [show W.heap[nb]? = _ from h2] at ho
      cases ho
      cases hoc) ?assign ?body ?done ?stop
  case stop => rintro D c pre W hD hpre hf; exact hf.elim
  case assign =>
    rintro l pre x W K ⟨⟨⟨cnt, hcnt, hKm⟩, hc, hbt⟩, hB⟩ hK
    have HK := Lib.hid hK; clear hK
    have hsB := hB.size
    simp only [encN]
    gi_wp2
    have HWa : Below w.heap.size W (W.alloc (.cells #[.string x.path, .int .i64 x.file, .int .i64 x.mode] 29)) := (Below.refl _ W).alloc hsB _
    have hcl := cell_lt hc
    exact HK.out _ _ ((KeepsOthers.alloc _ _).from _) HWa ⟨⟨⟨cnt, hcnt, hKm.kept (World.grownBy_alloc _ _ none) (by simp)⟩, cell_alloc_l _ hc, hbt.alloc _⟩, hB.trans HWa⟩ ⟨W.heap.size, hcl, Blk.new _ _ _, rfl⟩
  case body =>
    rintro l pre x a' W hl _ ⟨⟨⟨cnt, hcnt, hKm⟩, hc, hbt⟩, hB⟩ ⟨nb, hnb, hN, rfl⟩ hlen
    have n0 := hN.cell 0
    have n1 := hN.cell 1
    have hlt1 := cell_lt hc
    have hlt2 := hN.lt
    have hne1 : ¬ nb = w1.heap.size := by omega
    have hne2 : ¬ w2.heap.size = w1.heap.size := by omega
    have hnl : pre.length ≤ 256 := by
      have h1 := Htold.out
      rw [h1, Hnl.out] at hlen
      omega
    have hpz : (parentB x.path).size ≤ 9223372036854775807 := Nat.le_trans (parentB_size _) (Nat.le_trans x.hp (by omega))
    obtain ⟨kn, hkn⟩ : ∃ kn, kidsN pre (parK x) = kn := ⟨_, rfl⟩
    have hkb : kn ≤ 256 := by have := kidsN_le pre (parK x); omega
    have hkn' := Lib.hid hkn
    have hKd := hKm.kept (grown_drew W none) (by simp)
    have hsB := hB.size
    gi_wp2
    refine wpIn_round_ordB (some w1.heap.size) [(0, true), (1, true), (2, true), (3, false), (4, false), (5, true), (6, false)] (by kernel_rfl) (by kernel_rfl) fun hG0 => ?_
    repeat (first
      | (refine ord_skipB rfl (by rfl) ?_; simp only [Act.put, List.setIfInBounds_toArray, List.set_cons_zero, List.set_cons_succ])
      | (refine ord_qE rfl (by rfl) ?_; apply Exists.intro; refine ⟨fun w' hc' => ?_, ?_⟩; (focus (go_simp; (try go_bits); (try simp only [↓IntWalk.iteOmega]); with_reducible rfl)); simp only [Act.put, List.setIfInBounds_toArray, List.set_cons_zero, List.set_cons_succ]))
    refine ord_eB rfl fun K hK => ?_
    go_wp2_with (go_at_call 48; refine (parent_any x.path _ x.hp).mono ?_; rintro e wq ⟨rfl, hbq⟩)
    have hG1 := grown_trans hG0 (grown_below hbq (Nat.le_refl _))
    refine hK.out _ _ hG1 ?_
    clear hK K
    repeat (first
      | (refine ord_skipB rfl (by rfl) ?_; simp only [Act.put, List.setIfInBounds_toArray, List.set_cons_zero, List.set_cons_succ])
      | (refine ord_qE rfl (by rfl) ?_; apply Exists.intro; refine ⟨fun w' hc' => ?_, ?_⟩; (focus (go_simp; (try go_bits); (try simp only [↓IntWalk.iteOmega]); with_reducible rfl)); simp only [Act.put, List.setIfInBounds_toArray, List.set_cons_zero, List.set_cons_succ]))
    have hKq := hKd.kept (grown_below (row := none) hbq (Nat.le_refl _)) (by simp)
    refine ord_eB rfl fun K hK => ?_
    go_wp2_with (refine wpList_kmk_look rfl _ _ rfl rfl hKq rfl hpz (congrArg (Nat.cast (R := Int)) hkn'.out) ?_)
    have hG2 := grown_trans hG1 (⟨rfl, rfl, rfl, Nat.le_refl _, fun _ _ _ => rfl⟩)
    refine hK.out _ _ hG2 ?_
    clear hK K
    repeat (first
      | (refine ord_skipB rfl (by rfl) ?_; simp only [Act.put, List.setIfInBounds_toArray, List.set_cons_zero, List.set_cons_succ])
      | (refine ord_qE rfl (by rfl) ?_; apply Exists.intro; refine ⟨fun w' hc' => ?_, ?_⟩; (focus (go_simp; (try go_bits); (try simp only [↓IntWalk.iteOmega]); with_reducible rfl)); simp only [Act.put, List.setIfInBounds_toArray, List.set_cons_zero, List.set_cons_succ]))
    refine ord_eB rfl fun K hK => ?_
    go_wp2_with (refine wpList_kmk_put rfl _ _ _ rfl rfl hKq rfl hpz (by unfold maxLen; omega) rfl (wf_small (kn + 1) (by omega)) ?_; intro w4 hK4 hg4)
    have hG3 := grown_trans hG2 (hg4)
    refine hK.out _ _ hG3 ?_
    clear hK K
    repeat (first
      | (refine ord_skipB rfl (by rfl) ?_; simp only [Act.put, List.setIfInBounds_toArray, List.set_cons_zero, List.set_cons_succ])
      | (refine ord_qE rfl (by rfl) ?_; apply Exists.intro; refine ⟨fun w' hc' => ?_, ?_⟩; (focus (go_simp; (try go_bits); (try simp only [↓IntWalk.iteOmega]); with_reducible rfl)); simp only [Act.put, List.setIfInBounds_toArray, List.set_cons_zero, List.set_cons_succ]))
    refine ord_endN ?_
    have hN4 : Blk w4 nb 29 #[.string x.path, .int .i64 x.file, .int .i64 x.mode] := ((show Blk W.drew nb _ _ from hN).below hbq hlt2).grown hg4 (by simp [hne1])
    have hbt4 : Blk w4 w.heap.size 26 #[.slice NA nn nc, .slice FA fn fc] := ((show Blk W.drew _ _ _ from hbt).below hbq hbt.lt).grown hg4 (by simp; omega)
    have hc4 : w4.cell? ⟨w2.heap.size, 0, none⟩ = some (.map (some w1.heap.size)) := (World.cell?_of_block (w := wq) (a := ⟨w2.heap.size, 0, none⟩) (hg4.block _ (Nat.lt_of_lt_of_le hlt1 hbq.size) (by simp [hne2]))).trans ((hbq.cell (p := ⟨w2.heap.size, 0, none⟩) hlt1).trans hc)
    have hB4 : Below w.heap.size w w4 := (hB.drew.trans (hbq.mono hsB)).trans (below_grown hg4 (Nat.le_trans hsB hbq.size) (fun g e => by injection e with e; omega))
    have hW4 : Below w.heap.size W w4 := ((Below.drew (Below.refl _ W)).trans (hbq.mono hsB)).trans (below_grown hg4 (Nat.le_trans hsB hbq.size) (fun g e => by injection e with e; omega))
    have hF4 : KeepsFrom ((w2.alloc (.cells #[.map (some w1.heap.size)] 74)).alloc (.cells (TV.cells ⟨nodes, files, NA, nn, nc, FA, fn, fc⟩) 26)).heap.size W w4 :=
      (((KeepsOthers.drew W).trans (KeepsOthers.of_grownBy (row := none) (grown_below hbq (Nat.le_refl _)) (fun j o e => by cases e))).from _).trans (KeepsFrom.of_grownBy hg4 (fun j e => by injection e with e; simp only [World.size_alloc]; omega))
    have hK5 : KMk w4 w1.heap.size (cnt + 1) (fun k => ((kidsN (pre ++ [x]) k : Nat) : Int)) (addKey (keysOf pre) (parK x)) := by
      have e : (fun k => ((kidsN (pre ++ [x]) k : Nat) : Int)) = fun k => if k = parK x then (kn : Int) + 1 else kidsN pre k := funext fun k => by rw [kidsN_snoc, hkn]
      rw [e]
      exact hK4
    have m0 := hN4.cell 0
    have m1 := hN4.cell 1
    have hkeys := keysOf_snoc pre x
    simp only [Act.put]
    clear n0 n1 hK4 hKq hKd hKm
    by_cases hfile : x.file = -1
    · have hfile' : (x.file == -1) = true := by simp [hfile]
      have hstep : keysOf (pre ++ [x]) = addKey (addKey (keysOf pre) (parK x)) x.path.data.toList := by rw [hkeys, keysStep, if_pos hfile]
      replace hstep := Lib.hid hstep
      replace hkeys := Lib.hid hkeys
      have hxz : x.path.size ≤ 9223372036854775807 := Nat.le_trans x.hp (by omega)
      obtain ⟨k2, hk2⟩ : ∃ k2, kidsN (pre ++ [x]) x.path.data.toList = k2 := ⟨_, rfl⟩
      have hk2b : k2 ≤ 257 := by have := kidsN_le (pre ++ [x]) x.path.data.toList; simp at this; omega
      have hk2' := Lib.hid hk2; clear hk2
      have m2 := hN4.cell 2
      have hlt4 := Nat.lt_of_lt_of_le hlt1 hW4.size
      gi_wp2_with (first | (refine wpListIn_kmk_look rfl _ _ rfl rfl hK5 rfl hxz (congrArg (Nat.cast (R := Int)) hk2'.out) ?_) | (refine wpListIn_kmk_put (s := x.path) (v := (k2 : Int)) rfl _ _ _ rfl rfl hK5 rfl hxz (by unfold maxLen; omega) rfl (wf_small k2 (by omega)) ?_; intro w5 hK6 hg5))
      have hK7 : KMk w5 w1.heap.size (cnt + 1 + 1) (fun k => ((kidsN (pre ++ [x]) k : Nat) : Int)) (keysOf (pre ++ [x])) := by
        have e : (fun k => ((kidsN (pre ++ [x]) k : Nat) : Int)) = fun k => if k = x.path.data.toList then (k2 : Int) else ((kidsN (pre ++ [x]) k : Nat) : Int) := funext fun k => by
          split
          · rename_i h; rw [h, hk2'.out]
          · rfl
        rw [e, hstep.out]
        exact hK6
      exact ⟨hF4.trans (KeepsFrom.of_grownBy hg5 (fun j e => by injection e with e; simp only [World.size_alloc]; omega)), hW4.trans (below_grown hg5 hB4.size (fun g e => by injection e with e; omega)), ⟨⟨cnt + 1 + 1, by simp; omega, hK7⟩, (World.cell?_of_block (w := w4) (a := ⟨w2.heap.size, 0, none⟩) (hg5.block _ hlt4 (by simp [hne2]))).trans hc4, hbt4.grown hg5 (by simp; omega)⟩, hB4.trans (below_grown hg5 hB4.size (fun g e => by injection e with e; omega))⟩
    · have hstep : keysOf (pre ++ [x]) = addKey (keysOf pre) (parK x) := by rw [hkeys, keysStep, if_neg hfile]
      replace hstep := Lib.hid hstep
      replace hkeys := Lib.hid hkeys
      gi_wp2
      exact ⟨hF4, hW4, ⟨⟨cnt + 1, by simp; omega, by rw [hstep.out]; exact hK5⟩, hc4, hbt4⟩, hB4⟩
  case done =>
    rintro D ys W hD rfl ⟨⟨⟨cnt, hcnt, hKm⟩, hc, hbt⟩, hB⟩ hK
    rw [Htold.out] at hKm
    have hsB := hB.size
    have hDl : D < W.heap.size := (Array.getElem?_eq_some_iff.1 hK).1
    simp only [World.size_alloc] at hD
    refine hKc _ _ (weight_tail (g := kidsN nodes) hB hbt hc hKm (fun k => by have := kidsN_le nodes k; have := Hnl.out; omega) Hfs.out Hfl.out Hlen.out HS.out (by have := keysOf_len nodes; have := Hnl.out; omega) ?_)
    intro a' W' hdef hres hBW
    have hK' : W'.heap[D]? = some (.deferred (some [])) := (hBW.block D hDl).trans hK
    have hl2 : LeavesInM Fence.wide 5 Try.prog Try.f17 a'.tmps (TollRes (s1 (weightL (keysOf nodes) (kidsN nodes) files)) (s2 (weightL (keysOf nodes) (kidsN nodes) files)) w) a'.defers .returning W' := by
      rw [hdef]
      refine ⟨by simp, .inl ⟨_, _, rfl, run_takeDeferred hK', ?_⟩⟩
      refine ⟨_, ?_, rfl, (hB.trans (hBW.mono hB.size)).trans (belowK_b (w := w) (Nat.le_refl _) W' D _ _ (by omega) hK' rfl rfl)⟩
      have r1 := (results_tmp2 (fn := Try.f17) rfl a'.tmps Try.prog W').symm.trans hres
      injection r1 with r1 _
      exact (results_tmp2 (fn := Try.f17) rfl _ _ _).trans (by rw [r1])
    exact hl2
end Go.Proofs.Ytdjlchbgdehccaa
