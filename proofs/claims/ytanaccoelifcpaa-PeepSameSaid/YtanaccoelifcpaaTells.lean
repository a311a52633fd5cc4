/- A world's nodes by rising paths. model.tell: a world told as a tree. -/
import Derived.Test.YtanaccoelifcpaaCmd
import Derived.Test.YtanaccoelifcpaaIds
import Derived.Test.YtanaccoelifcpaaOps
import Derived.Test.YtanaccoelifcpaaSort
import Derived.Test.YtanaccoelifcpaaClone

namespace Go.Proofs.Ytanaccoelifcpaa
open Go.RowKit

/-- A world's nodes at paths. -/
def nodesOf (l : List Node) (qs : List ByteArray) : List Node := qs.filterMap (nodeAt l)
theorem nodesOf_paths {l : List Node} : ∀ {qs : List ByteArray}, (∀ q ∈ qs, q ∈ l.map (·.path)) → (nodesOf l qs).map (·.path) = qs
  | [], _ => rfl
  | q :: t, h => by
    have ⟨x, hx⟩ : ∃ x, nodeAt l q = some x := by
      cases hq : nodeAt l q with
      | none =>
        obtain ⟨y, hy, e⟩ := List.mem_map.1 (h q (by simp))
        exact absurd e (nodeAt_none.1 hq y hy)
      | some x => exact ⟨x, rfl⟩
    have e : nodesOf l (q :: t) = x :: nodesOf l t := by simp [nodesOf, hx]
    rw [e, List.map_cons, nodesOf_paths fun q' hq' => h q' (List.mem_cons_of_mem _ hq'), (nodeAt_some hx).2]
theorem nodesOf_mem {l : List Node} {qs : List ByteArray} {x : Node} (h : x ∈ nodesOf l qs) : x ∈ l := by
  obtain ⟨q, _, hq⟩ := List.mem_filterMap.1 h
  exact (nodeAt_some hq).1
theorem nodesOf_get {l : List Node} {qs : List ByteArray} (h : ∀ q ∈ qs, q ∈ l.map (·.path)) {k : Nat} {q : ByteArray} (hk : qs[k]? = some q) : ∃ x, (nodesOf l qs)[k]? = some x ∧ nodeAt l q = some x := by
  have h1 := nodesOf_paths h
  have h2 : ((nodesOf l qs).map (·.path))[k]? = some q := by rw [h1]; exact hk
  rw [List.getElem?_map] at h2
  cases hx : (nodesOf l qs)[k]? with
  | none => rw [hx] at h2; cases h2
  | some x =>
    rw [hx] at h2
    simp only [Option.map_some, Option.some.injEq] at h2
    refine ⟨x, rfl, ?_⟩
    obtain ⟨q', _, hq'⟩ := List.mem_filterMap.1 (List.mem_of_getElem? hx)
    have := (nodeAt_some hq').2
    rw [← h2, this]
    exact hq'
theorem nodesOf_perm {l : List Node} (hA : Apart l) {qs : List ByteArray} (hp : qs.Perm (l.map (·.path))) : (nodesOf l qs).Perm l := by
  have hm : ∀ q ∈ qs, q ∈ l.map (·.path) := fun q hq => hp.mem_iff.1 hq
  have h1 : (nodesOf l qs).Nodup := by
    have : ((nodesOf l qs).map (·.path)).Nodup := by rw [nodesOf_paths hm]; exact hp.symm.nodup_iff.1 hA
    exact (List.pairwise_map.1 this).imp fun hne e => hne (by rw [e])
  have h2 : l.Nodup := (List.pairwise_map.1 hA).imp fun hne e => hne (by rw [e])
  refine List.perm_iff_count.2 fun x => ?_
  rw [h1.count, h2.count]
  have : x ∈ nodesOf l qs ↔ x ∈ l := by
    refine ⟨nodesOf_mem, fun hx => ?_⟩
    exact List.mem_filterMap.2 ⟨x.path, hp.mem_iff.2 (List.mem_map.2 ⟨x, hx, rfl⟩), nodeAt_mem hA hx⟩
  simp only [this]
theorem nodesOf_rises {l : List Node} (hA : Apart l) {qs : List ByteArray} (hp : qs.Perm (l.map (·.path))) (hs : qs.Pairwise fun a b => a.data.toList ≤ b.data.toList) : Rises (nodesOf l qs) := by
  have hm : ∀ q ∈ qs, q ∈ l.map (·.path) := fun q hq => hp.mem_iff.1 hq
  have hnd : qs.Nodup := hp.symm.nodup_iff.1 hA
  have h3 : qs.Pairwise fun a b => a.data.toList < b.data.toList := by
    have := hs.and hnd
    refine this.imp fun {a b} ⟨h1, h2⟩ => ?_
    rcases lt_or a.data.toList b.data.toList with h | h | h
    · exact h
    · exact absurd (ba_ext h) h2
    · exact absurd h h1
  have h4 := nodesOf_paths hm
  rw [← h4] at h3
  exact (List.pairwise_map (f := fun x : Node => x.path) (R := fun a b : ByteArray => a.data.toList < b.data.toList)).1 h3
end Go.Proofs.Ytanaccoelifcpaa

namespace Go.Proofs.Ytanaccoelifcpaa
open Go.RowKit

section
variable {α : Type} [DecidableEq α] {k : TypeId} {T : KT α k} {es : List (α × Value)} {ops : Array Oper} {rest : List Oper} {o : Oper} {a : Act} {Q : Exit → Act → World → Prop} {w : World}
theorem wpList_mr_nil (hgd : o.guard = none) (it : Operand) (ho : o.op = Op.next it false) {b r cnt : Nat} (hit : a.eval it = .pointer (some ⟨r, 0, none⟩)) (h : MapR T w b r es [] cnt)
    (hDone : wpList Try.prog ops Q rest (a.put o.dst (.tuple #[.bool false])) w) : wpList Try.prog ops Q (o :: rest) a w :=
  wpList_mr_next hgd it ho hit h (fun _ => hDone) (fun q v w' cnt' hm => by cases hm)
theorem wpList_mr_cons (hgd : o.guard = none) (it : Operand) (ho : o.op = Op.next it false) {b r cnt : Nat} {todo : List (α × Value)} (hne : todo ≠ []) (hit : a.eval it = .pointer (some ⟨r, 0, none⟩)) (h : MapR T w b r es todo cnt)
    (hMore : ∀ (q : α) (v : Value) (w' : World) (cnt' : Nat), (q, v) ∈ todo → T.ok q → MapR T w' b r es (delV todo q) cnt' → cnt' < cnt → w.grownBy w' (some r) → w'.heap.size = w.heap.size →
      (Instr.entry (.pointer (some ⟨r, 0, none⟩))).run Try.prog w' = .ok (.tuple #[T.val q, v]) w' → wpList Try.prog ops Q rest (a.put o.dst (.tuple #[.bool true, T.val q, v])) w') : wpList Try.prog ops Q (o :: rest) a w :=
  wpList_mr_next hgd it ho hit h (fun e => absurd e hne) hMore
end
theorem MapV.set_ne {α : Type} [DecidableEq α] {k : TypeId} {T : KT α k} {w : World} {b : Nat} {es : List (α × Value)} (h : MapV T w b es) (a : Addr) (v : Value) (hne : b ≠ a.block) : MapV T (w.setCell a v) b es :=
  h.keep (heap_setCell_other w a b v hne)
theorem MapV.ne_row {α : Type} [DecidableEq α] {k : TypeId} {T : KT α k} {w : World} {b base e sz n c : Nat} {es : List (α × Value)} {A : Option Addr} {L : List Value} (h : MapV T w b es) (ho : w.ownsRow base e sz (.slice A n c) n L) : some b ≠ blkOf A := fun e1 => by
  obtain ⟨ms, cl, hb⟩ := h.isMap
  rcases ho.2 with ⟨h', _⟩ | ⟨g', _, _, h', _, hh, _⟩
  · injection h' with h'; subst h'; cases e1
  · injection h' with h'; subst h'
    simp only [blkOf, Option.some.injEq] at e1
    subst e1
    rw [hb] at hh
    cases hh
theorem MapR.ne_row {α : Type} [DecidableEq α] {k : TypeId} {T : KT α k} {w : World} {b r cnt base e sz n c : Nat} {es todo : List (α × Value)} {A : Option Addr} {L : List Value} (h : MapR T w b r es todo cnt) (ho : w.ownsRow base e sz (.slice A n c) n L) : some r ≠ blkOf A := fun e1 => by
  obtain ⟨_, _, _, D, left, hr, _⟩ := h
  obtain ⟨_, _, _, _, _, _, _, _, _, hit, _⟩ := hr
  rcases ho.2 with ⟨h', _⟩ | ⟨g', _, _, h', _, hh, _⟩
  · injection h' with h'; subst h'; cases e1
  · injection h' with h'; subst h'
    simp only [blkOf, Option.some.injEq] at e1
    subst e1
    rw [hit] at hh
    cases hh
/-- The paths so far, of the range over a world's nodes. -/
def KeysAt (base nb rb : Nat) (l : List Node) (w wr : World) (v3 : Value) : Prop :=
  ∃ (A : Option Addr) (c : Nat) (done : List ByteArray) (todo : List (ByteArray × Value)) (cnt : Nat), v3 = .slice A done.length c ∧ MapR strK wr nb rb (nodesE l) todo cnt ∧ (done ++ keysV todo).Perm (l.map (·.path)) ∧ wr.ownsRow base 9 1 (.slice A done.length c) done.length (done.flatMap strOf) ∧
    Blk wr base 25 #[.slice none 0 0, .slice none 0 0] ∧ base < rb ∧ Below base w wr
theorem perm_nodup {α : Type} [DecidableEq α] {l m : List α} (hl : l.Nodup) (hm : m.Nodup) (h : ∀ x, x ∈ l ↔ x ∈ m) : l.Perm m := by
  refine List.perm_iff_count.2 fun a => ?_
  rw [hl.count, hm.count]
  simp only [h a]
theorem erase_keys {todo : List (ByteArray × Value)} {q : ByteArray} (hn : (keysV todo).Nodup) (hq : q ∈ keysV todo) : (keysV todo).Perm (q :: keysV (delV todo q)) := by
  have h2 : (q :: keysV (delV todo q)).Nodup := by
    rw [List.nodup_cons, delV_keys]
    exact ⟨by simp, hn.filter _⟩
  refine perm_nodup hn h2 fun x => ?_
  rw [delV_keys]
  simp only [List.mem_cons, List.mem_filter, Bool.not_eq_true', decide_eq_false_iff_not]
  by_cases e : x = q
  · simp [e, hq]
  · simp [e]
/-- A world's file. -/
def PW.F (M : PW) (i : Int) : Int × ByteArray := ((fileOf M i).map fun f => (f.mode, f.data)).getD (0, ByteArray.empty)
def freshE (ids : List Int) : List (Int × Value) := ids.map fun i => (i, .int .i64 (ids.idxOf i : Nat))
theorem getV_map {l : List Int} (g : Int → Value) (a : Int) : getV (l.map fun i => (i, g i)) a = if a ∈ l then some (g a) else none := by
  induction l with
  | nil => rfl
  | cons x t ih =>
    unfold getV at ih ⊢
    rw [List.map_cons, List.find?_cons]
    by_cases e : x = a
    · subst e; simp
    · simp only [e, decide_false, ih, List.mem_cons, show ¬ a = x from fun h => e h.symm, false_or]
theorem freshE_get (ids : List Int) (a : Int) : getV (freshE ids) a = if a ∈ ids then some (.int .i64 (ids.idxOf a : Nat)) else none := getV_map _ a
theorem freshE_keys (ids : List Int) : keysV (freshE ids) = ids := by simp [keysV, freshE, Function.comp_def]
theorem freshE_put {ids : List Int} {a : Int} (h : a ∉ ids) : putV (freshE ids) a (.int .i64 (ids.length : Nat)) = freshE (ids ++ [a]) := by
  unfold putV
  rw [freshE_keys, if_neg h]
  unfold freshE
  rw [List.map_append]
  congr 1
  · refine List.map_congr_left fun i hi => ?_
    rw [idx_pre hi]
  · simp [List.idxOf_append, h]
theorem nodes_snoc (l : List Node) (x : Node) : (l ++ [x]).flatMap Node.list = l.flatMap Node.list ++ x.list := by simp
theorem FRows.set_low {w : World} {base : Nat} {fs : List FC} {ds : List ByteArray} (h : FRows w base fs ds) {ub : Nat} (hn : ∀ (k : Nat) (f : FC) (b : Nat), fs[k]? = some f → blkOf f.A = some b → b ≠ ub) (i : Nat) (v : Value) : FRows (w.setCell ⟨ub, i, none⟩ v) base fs ds :=
  h.keep (by simp [World.setCell]) fun k f b hf hb => heap_setCell_other w _ b v (hn k f b hf hb)
theorem FRows.not_blk {w : World} {base : Nat} {fs : List FC} {ds : List ByteArray} (h : FRows w base fs ds) (hl : fs.length ≤ ds.length) {g : Nat} {t : TypeId} {cs : Array Value} (hb : Blk w g t cs) (hne : t ≠ 5) : ∀ (k : Nat) (f : FC) (b : Nat), fs[k]? = some f → blkOf f.A = some b → b ≠ g := fun k f b hf hb2 e => by
  have hk : k < ds.length := by have := (List.getElem?_eq_some_iff.1 hf).1; omega
  exact hb.ne_row (h.row k f _ hf (List.getElem?_eq_getElem hk)).2 hne (by rw [hb2, e])
theorem FRows.not_map {α : Type} [DecidableEq α] {kt : TypeId} {T : KT α kt} {w : World} {base b : Nat} {es : List (α × Value)} {fs : List FC} {ds : List ByteArray} (h : FRows w base fs ds) (hl : fs.length ≤ ds.length) (hm : MapV T w b es) : ∀ (k : Nat) (f : FC) (b' : Nat), fs[k]? = some f → blkOf f.A = some b' → some b' ≠ some b := fun k f b' hf hb e => by
  have hk : k < ds.length := by have := (List.getElem?_eq_some_iff.1 hf).1; omega
  exact hm.ne_row (h.row k f _ hf (List.getElem?_eq_getElem hk)).2 (by rw [hb, e])
theorem Try.mtFresh : MT 73 3 3 (.int .i64 0) := ⟨Try.underlying73, fun w => by kernel_rfl⟩
theorem node3_one (q : ByteArray) (f m : Int) : ∀ u ∈ (#[.string q, .int .i64 f, .int .i64 m] : Array Value).toList, u.oneCell' = true := by
  intro u hu
  simp only [List.mem_cons, List.not_mem_nil, or_false] at hu
  rcases hu with rfl | rfl | rfl <;> rfl
theorem own_base {w : World} {base base' e sz n c : Nat} {A : Option Addr} {L : List Value} (h : w.ownsRow base e sz (.slice A n c) n L) (hb : base' ≤ base) : w.ownsRow base' e sz (.slice A n c) n L := by
  refine ⟨h.1, ?_⟩
  rcases h.2 with h0 | ⟨g, cap, cur, hv, hg, r⟩
  · exact .inl h0
  · exact .inr ⟨g, cap, cur, hv, Nat.le_trans hb hg, r⟩
theorem FRows.base {w : World} {base base' : Nat} {fs : List FC} {ds : List ByteArray} (h : FRows w base fs ds) (hb : base' ≤ base) : FRows w base' fs ds :=
  ⟨fun k f d hf hd => ⟨(h.row k f d hf hd).1, own_base (h.row k f d hf hd).2 hb⟩, h.apart, h.low⟩
/-- The tree so far. -/
def TellAt (M : PW) (S : List Node) (base ub mb : Nat) (w3 wr : World) (k : Nat) : Prop :=
  ∃ (NA FA : Option Addr) (nc fc fl : Nat) (fs : List FC), Blk wr ub 25 #[.slice NA k nc, .slice FA fl fc] ∧ wr.ownsRow base 46 3 (.slice NA k nc) k (((S.take k).map (reN (idsL (S.take k)))).flatMap Node.list) ∧
    wr.ownsRow base 49 2 (.slice FA fl fc) fl (fs.flatMap FC.list) ∧ fs.length = fl ∧ fl = (idsL (S.take k)).length ∧ fs.map (·.mode) = (idsL (S.take k)).map (fun i => (M.F i).1) ∧ FRows wr base fs ((idsL S).map fun i => (M.F i).2) ∧
    MapV intK wr mb (freshE (idsL (S.take k))) ∧ Below w3.heap.size w3 wr
/-- A world told as a tree, in memory of its own. -/
def TellRes (M : PW) (w : World) (e : Ending) (w' : World) : Prop :=
  ∃ (S : List Node) (u : TV), S.Perm M.nodes ∧ Rises S ∧ e = .returned u.val ∧ u.nodes = S.map (reN (idsL S)) ∧ u.nn = S.length ∧ u.fn = (idsL S).length ∧ u.files.length = u.fn ∧ u.files.map (·.mode) = (idsL S).map (fun i => (M.F i).1) ∧
    w'.ownsRow w.heap.size 46 3 (.slice u.NA u.nn u.nc) u.nn (u.nodes.flatMap Node.list) ∧ w'.ownsRow w.heap.size 49 2 (.slice u.FA u.fn u.fc) u.fn (u.files.flatMap FC.list) ∧ FRows w' w.heap.size u.files ((idsL S).map fun i => (M.F i).2) ∧ Below w.heap.size w w'
set_option maxRecDepth 100000 in
set_option maxHeartbeats 8000000 in
theorem tell_any (B0 wb : Nat) (M : PW) (s : Nat) (w : World) (h : WorldAt B0 w wb M s) (hA : Apart M.nodes) (hfi : ∀ x ∈ M.nodes, x.file < 0 ∨ x.file ∈ M.files.map (·.id)) (hfr : ∀ x ∈ M.nodes, -9223372036854775808 ≤ x.file ∧ x.file ≤ 9223372036854775807) (hds : ∀ f ∈ M.files, f.data.size ≤ 1000000) (hl : M.nodes.length ≤ 1000000) : Calls Try.prog 14 #[.pointer (some ⟨wb, 0, none⟩)] w (TellRes M w) := by
  obtain ⟨nb, fb, kb, ms, kl, hM, hO⟩ := h
  have HO := Lib.hid hO; clear hO
  go_enter Try.func14, Try.ntmps14
  go_upto_region 2 with (fail)
  have hR := Blk.new w 25 #[.slice none 0 0, .slice none 0 0]
  have hM1 := hM.keep (World.grownBy_alloc w (.cells #[.slice none 0 0, .slice none 0 0] 25) none)
  have hb : Below w.heap.size w (w.alloc (.cells #[.slice none 0 0, .slice none 0 0] 25)) := (Below.refl _ _).alloc (Nat.le_refl _) _
  obtain ⟨W1, hW1⟩ : ∃ W1, W1 = w.alloc (.cells #[.slice none 0 0, .slice none 0 0] 25) := ⟨_, rfl⟩
  have hs1 : w.heap.size < W1.heap.size := by rw [hW1]; simp
  rw [← hW1] at hR hM1 hb ⊢
  clear hW1
  have b0 := hM1.blk.cell 0
  have HM1 := Lib.hid hM1; have HM0 := Lib.hid hM; clear hM
  go_upto_region 6 with (refine wpList_mr_range rfl Try.mtNodes _ rfl rfl hM1.nodes ?_; intro w2 hMR hg2 hs2; simp only [Act.put, List.setIfInBounds_toArray, List.set_cons_zero, List.set_cons_succ])
  have hb2 := hb.trans (below_grown hg2 (by omega) (fun g e => by cases e))
  have hR2 := hR.grown hg2 (by simp)
  have h0 : KeysAt w.heap.size nb W1.heap.size M.nodes w w2 (.slice none 0 0) :=
    ⟨none, 0, [], nodesE M.nodes, (nodesE M.nodes).length, rfl, hMR, by rw [List.nil_append, nodesE_keys], World.ownsRow_nil _ _ _ _, hR2, by omega, hb2⟩
  have H0 := Lib.hid h0; clear h0 hMR hg2 hb2 hR2 hR hb b0
  go_loopw [3] (fun v3 wr => KeysAt w.heap.size nb W1.heap.size M.nodes w wr v3) (fun _ wr => wr.rangeLeft nb W1.heap.size)
  case atStart => exact H0.out
  case round =>
    clear H0
    obtain ⟨A, c, done, todo, cnt, rfl, hMR, hp, ho, hR, hrb, hb⟩ := hrel
    cases htd : todo with
    | nil =>
      subst htd
      have hp' : done.Perm (M.nodes.map (·.path)) := by simpa [keysV] using hp
      have hln : done.length ≤ 1000000 := by rw [hp'.length_eq]; simpa using hl
      have HP := Lib.hid hp'; have HO1 := Lib.hid ho; clear hp hp' ho
      obtain ⟨n, hn⟩ : ∃ n, done.length = n := ⟨_, rfl⟩
      rw [hn] at HO1 hln
      have HN := Lib.hid hn
      go_upto_region 7 with (first | (refine wpList_mr_nil rfl _ rfl rfl hMR ?_) | (go_at_call 21; refine (sort_own w.heap.size A n c done _ HN.out (by omega) HO1.out).mono ?_; rintro e w3 ⟨rfl, qs, hqp, hqs, hqo, hg3⟩))
      have hqp2 : qs.Perm (M.nodes.map (·.path)) := hqp.trans HP.out
      obtain ⟨S, hS⟩ : ∃ S, nodesOf M.nodes qs = S := ⟨_, rfl⟩
      have hSm := nodesOf_paths (l := M.nodes) (qs := qs) (fun q hq => hqp2.mem_iff.1 hq)
      have hSg := fun k q hk => nodesOf_get (l := M.nodes) (qs := qs) (fun q hq => hqp2.mem_iff.1 hq) (k := k) (q := q) hk
      have hSp := nodesOf_perm hA hqp2
      have hSr := nodesOf_rises hA hqp2 hqs
      rw [hS] at hSm hSg hSp hSr
      have hqn : qs.length = n := by rw [hqp.length_eq]; exact HN.out
      have hSn : S.length = n := by rw [← hqn, ← hSm, List.length_map]
      have HSg := Lib.hid hSg; have HSp := Lib.hid hSp; have HSr := Lib.hid hSr; have HSn := Lib.hid hSn; have Hqn := Lib.hid hqn
      clear hSm hSg hSp hSr hSn hqn hS hqp hqs hqp2
      have hb3 := hb.trans (below_grown hg3 hb.size (fun g e => own_blk1 HO1.out g e))
      have hR3 := hR.grown hg3 (hR.ne_row HO1.out (by decide))
      have hM3 := HM0.out.keep (grown_below hb3 (Nat.le_refl _))
      have hmm := @run_makeMap Try.prog
      go_upto_region 9 with (fail)
      clear hmm
      have hU := (Blk.new w3 25 #[.slice none 0 0, .slice none 0 0]).alloc (.map #[] 0)
      have hMb := MapV.new (T := intK) (w3.alloc (.cells #[.slice none 0 0, .slice none 0 0] 25))
      have hb4 : Below w3.heap.size w3 ((w3.alloc (.cells #[.slice none 0 0, .slice none 0 0] 25)).alloc (.map #[] 0)) := ((Below.refl _ _).alloc (Nat.le_refl _) _).alloc (by simp) _
      rw [World.size_alloc] at hMb
      have h0 : TellAt M S w3.heap.size w3.heap.size (w3.heap.size + 1) w3 ((w3.alloc (.cells #[.slice none 0 0, .slice none 0 0] 25)).alloc (.map #[] 0)) 0 :=
        ⟨none, none, 0, 0, 0, [], hU, World.ownsRow_nil _ _ _ _, World.ownsRow_nil _ _ _ _, rfl, rfl, rfl, FRows.nil _ _ _, hMb, hb4⟩
      have H0 := Lib.hid h0; clear h0 hU hMb hb4
      have HSl := Lib.hid (Sl.of_own hqo)
      have HM3 := Lib.hid hM3; have HR3 := Lib.hid hR3; have Hb3 := Lib.hid hb3
      have hbs3 := hb3.size
      clear hM3 hR3 hqo hMR hR HP HN HM1 hg3 HO1 hb
      obtain ⟨ub, hub⟩ : ∃ ub, ub = w3.heap.size := ⟨_, rfl⟩
      obtain ⟨mb, hmb⟩ : ∃ mb, mb = w3.heap.size + 1 := ⟨_, rfl⟩
      rw [← hub] at H0 ⊢
      rw [show ub + 1 = mb by omega] at H0 ⊢
      have hubm : w3.heap.size ≤ ub ∧ w3.heap.size ≤ mb ∧ ub ≠ mb := by omega
      clear hub hmb
      go_wp2
      go_loopw [31] (fun i wr => ∃ k : Nat, k ≤ n ∧ i = .int .i64 k ∧ TellAt M S ub ub mb w3 wr k) (fun i _ => n - (intOf i).toNat)
      case atStart => exact ⟨0, Nat.zero_le _, rfl, H0.out⟩
      case round =>
        clear H0
        obtain ⟨k, hk, rfl, NA, FA, nc, fc, fl, fs, hU, hoN, hoF, hfl, hflI, hfm, hFR, hMb, hb⟩ := hrel
        have HoN := Lib.hid hoN; have HoF := Lib.hid hoF; have Hfl := Lib.hid hfl; have HflI := Lib.hid hflI; have Hfm := Lib.hid hfm; have HFR := Lib.hid hFR
        clear hoN hoF hfl hflI hfm hFR
        have hsb := hb.size
        have hIle : (idsL (S.take k)).length ≤ n := by
          have h1 : ∀ l : List Node, (idsL l).length ≤ l.length := fun l => by
            have : ∀ (l : List Node) (acc : List Int), (l.foldl idStep acc).length ≤ acc.length + l.length := by
              intro l
              induction l with
              | nil => intro acc; simp
              | cons x t ih =>
                intro acc
                have h2 := ih (idStep acc x)
                have h3 : (idStep acc x).length ≤ acc.length + 1 := by unfold idStep; split <;> simp
                simp only [List.foldl_cons, List.length_cons]
                omega
            simpa [idsL] using this l []
          have := h1 (S.take k)
          rw [List.length_take] at this
          omega
        have hfl6 : fl ≤ 1000000 := by rw [HflI.out]; omega
        have hDS : fs.length ≤ ((idsL S).map fun i => (M.F i).2).length := by
          rw [List.length_map, Hfl.out, HflI.out]
          obtain ⟨r, hr⟩ := idsL_pre (S.take k) (S.drop k)
          rw [List.take_append_drop] at hr
          rw [hr]; simp
        have HDS := Lib.hid hDS; clear hDS
        by_cases hlt : k < n
        · have hki : (k : Int) < n := by omega
          obtain ⟨b, o, q, rfl, hbl, hq, hc⟩ := (HSl.out.below hb (Nat.le_refl _)).get strOf_len Hqn.out hlt
          obtain ⟨x, hx, hxn⟩ := HSg.out k q hq
          obtain ⟨hxm, hxp⟩ := nodeAt_some hxn
          have hgn : (getV (nodesE M.nodes) q).getD (.agg #[.int .i64 0, .int .i64 0]) = .agg #[.int .i64 x.file, .int .i64 x.mode] := by rw [nodesE_get, hxn]; rfl
          have hts := take_snoc' hx
          have hxr := hfr x hxm
          have hxfi := hfi x hxm
          have c0 := hc 0 _ rfl
          simp only [Nat.add_zero, Nat.mul_one] at c0
          have hqz : q.size ≤ 9223372036854775807 := by rw [← hxp]; exact x.hp
          have Hgn := Lib.hid hgn; have Hts := Lib.hid hts; have Hxp := Lib.hid hxp; have Hxm := Lib.hid hxm; have Hxfi := Lib.hid hxfi
          clear hgn hts hxp hxm hxfi hxn hx hq hc
          have hW := HM3.out.keep (grown_below hb (Nat.le_refl _))
          have m0 := hW.blk.cell 0
          have hwl := hW.blk.lt
          have hmr := map_re_snoc (S.take k) x
          rw [← Hts.out] at hmr
          have hid1 := idsL_snoc (S.take k) x
          rw [← Hts.out] at hid1
          have Hmr := Lib.hid hmr; have Hid1 := Lib.hid hid1; clear hmr hid1
          go_upto_region 13 with (refine wpList_mv_look rfl Try.mtNodes _ _ rfl rfl hW.nodes (T := strK) (q := q) rfl hqz Hgn.out ?_)
          have hX := Blk.new wr 75 #[.int .i64 x.file, .int .i64 x.mode]
          have HW1 := Lib.hid (hW.keep (World.grownBy_alloc wr (.cells #[.int .i64 x.file, .int .i64 x.mode] 75) none))
          have hU1 := hU.alloc (.cells #[.int .i64 x.file, .int .i64 x.mode] 75)
          have HoN1 := Lib.hid (HoN.out.alloc (.cells #[.int .i64 x.file, .int .i64 x.mode] 75))
          have HoF1 := Lib.hid (HoF.out.alloc (.cells #[.int .i64 x.file, .int .i64 x.mode] 75))
          have HFR1 := Lib.hid (HFR.out.grown (World.grownBy_alloc wr (.cells #[.int .i64 x.file, .int .i64 x.mode] 75) none) (fun _ _ _ _ _ e => by cases e))
          have hMb1 := hMb.kept (World.grownBy_alloc wr (.cells #[.int .i64 x.file, .int .i64 x.mode] 75) none) (by simp)
          have hb1 := hb.alloc hsb (.cells #[.int .i64 x.file, .int .i64 x.mode] 75)
          obtain ⟨V, hV⟩ : ∃ V, V = wr.alloc (.cells #[.int .i64 x.file, .int .i64 x.mode] 75) := ⟨_, rfl⟩
          have hVs : wr.heap.size < V.heap.size := by rw [hV]; simp
          rw [← hV] at hX HW1 hU1 HoN1 HoF1 HFR1 hMb1 hb1 ⊢
          obtain ⟨nk, hnk⟩ : ∃ nk, nk = wr.heap.size := ⟨_, rfl⟩
          rw [← hnk] at hX hVs ⊢
          have hnkw : w3.heap.size ≤ nk := by omega
          have hnku : nk ≠ ub ∧ nk ≠ mb := by
            have h1 := hU.lt; have h2 := hMb.lt; omega
          clear hV hnk HW1 m0 c0 hwl hW hU hMb hb HoN HoF HFR hsb hbl
          replace hsb := hb1.size
          have n0 := hX.cell 0
          have n1 := hX.cell 1
          have u0 := hU1.cell 0
          have u1 := hU1.cell 1
          by_cases hdir : x.file < 0
          · have hids : idsL (S.take (k + 1)) = idsL (S.take k) := by rw [Hid1.out, idStep, if_pos (.inl hdir)]
            have hre : reN (idsL (S.take (k + 1))) x = x := by rw [reN, if_pos hdir]
            have Hids := Lib.hid hids; have Hre := Lib.hid hre; clear hids hre
            have hdir' : ¬ (0 : Int) ≤ x.file := by omega
            go_wp2_with (at_builtin; refine wpList_append_one rfl _ _ _ rfl Try.nodeT rfl HoN1.out #[.string q, .int .i64 (x.file), .int .i64 x.mode] rfl (by first | rfl | simp) rfl (node3_one _ _ _) (by unfold maxLen; omega) (by omega) (Nat.le_of_lt hU1.lt) ?_; intro g6 c6 w6 ho6 hg6 hat6; have hU6 := hU1.grown hg6 (hU1.ne_row HoN1.out (by decide)); have y0 := hU6.cell 0; have z0 := hU6.frozen 0)
            have HoF6 := Lib.hid (own_keep HoF1.out fun g o e => hg6.block g (own_lt2 (by rw [← e]; exact HoF1.out)).2.1 (row_ne_row HoF1.out HoN1.out (by decide) (by rw [e]; rfl)))
            have HFR6 := Lib.hid (HFR1.out.grown hg6 (HFR1.out.not_row HDS.out HoN1.out (by decide)))
            have hMb6 := hMb1.kept hg6 (hMb1.ne_row HoN1.out)
            have hb6 := hb1.trans (below_grown hg6 hsb (fun g e => by have := own_blk1 HoN1.out g e; omega))
            go_roundw
            case rel =>
              refine ⟨k + 1, by omega, by go_num, some ⟨g6, 0, none⟩, FA, c6, fc, fl, fs, hU6.set 0 _, ?_, own_blkset HoF6.out hU6 (by decide) _ _, Hfl.out, ?_, ?_, HFR6.out.blkset HDS.out hU6 (by decide) _ _, ?_, hb6.setCell (p := ⟨ub, 0, none⟩) hubm.1 _⟩
              · have e : (((S.take (k + 1)).map (reN (idsL (S.take (k + 1))))).flatMap Node.list) = ((S.take k).map (reN (idsL (S.take k)))).flatMap Node.list ++ [.string q, .int .i64 (x.file), .int .i64 x.mode] := by
                  rw [Hmr.out, Hre.out, nodes_snoc, ← Hxp.out]; rfl
                rw [e]
                exact own_blkset ho6 hU6 (by decide) _ _
              · rw [Hids.out]; exact HflI.out
              · rw [Hids.out]; exact Hfm.out
              · rw [Hids.out]; exact hMb6.set_ne _ _ (fun e => hubm.2.2 e.symm)
            case measure => simp [intOf]; omega
          · by_cases hin : x.file ∈ idsL (S.take k)
            · have hids : idsL (S.take (k + 1)) = idsL (S.take k) := by rw [Hid1.out, idStep, if_pos (.inr hin)]
              obtain ⟨ix, hix⟩ : ∃ ix, (idsL (S.take k)).idxOf x.file = ix := ⟨_, rfl⟩
              have hixl : ix ≤ 1000000 := by have := List.idxOf_le_length (a := x.file) (l := idsL (S.take k)); omega
              have hre : reN (idsL (S.take (k + 1))) x = ⟨x.path, (ix : Int), x.mode, x.hp⟩ := by rw [reN, if_neg hdir, hids, hix]
              have hg1 : (getV (freshE (idsL (S.take k))) x.file).getD (.int .i64 0) = .int .i64 (ix : Nat) := by rw [freshE_get, if_pos hin, hix]; rfl
              have hg2 : (getV (freshE (idsL (S.take k))) x.file).isSome = true := by rw [freshE_get, if_pos hin]; rfl
              have Hids := Lib.hid hids; have Hre := Lib.hid hre; have Hg1 := Lib.hid hg1; have Hg2 := Lib.hid hg2
              have hdir' : (0 : Int) ≤ x.file := by omega
              clear hids hre hg1 hg2 hix hin
              go_upto_region 20 with (refine wpList_mv_ok (k := 3) rfl Try.mtFresh _ _ rfl rfl hMb1 (T := intK) (q := x.file) rfl (wf_i64 hxr.1 hxr.2) Hg1.out Hg2.out ?_)
              have zz := hX.frozen 0
              go_upto_region 21 with (fail)
              replace hU1 := hU1.set_ne ⟨nk, 0, none⟩ (.int .i64 (ix : Nat)) (fun e => hnku.1 e.symm)
              replace HoN1 := Lib.hid (own_blkset HoN1.out hX (by decide) 0 (.int .i64 (ix : Nat)))
              replace HoF1 := Lib.hid (own_blkset HoF1.out hX (by decide) 0 (.int .i64 (ix : Nat)))
              replace HFR1 := Lib.hid (HFR1.out.blkset HDS.out hX (by decide) 0 (.int .i64 (ix : Nat)))
              replace hMb1 := hMb1.set_ne ⟨nk, 0, none⟩ (.int .i64 (ix : Nat)) (fun e => hnku.2 e.symm)
              replace hb1 := hb1.setCell (p := ⟨nk, 0, none⟩) hnkw (.int .i64 (ix : Nat))
              replace hX := hX.set 0 (.int .i64 (ix : Nat))
              obtain ⟨V2, hV2⟩ : ∃ V2, V2 = V.setCell ⟨nk, 0, none⟩ (.int .i64 (ix : Nat)) := ⟨_, rfl⟩
              rw [← hV2] at hX hU1 HoN1 HoF1 HFR1 hMb1 hb1 ⊢
              clear hV2 n0 n1 u0 u1 zz hsb
              have hsb := hb1.size
              have n0 := hX.cell 0
              have n1 := hX.cell 1
              have u0 := hU1.cell 0
              go_wp2_with (at_builtin; refine wpList_append_one rfl _ _ _ rfl Try.nodeT rfl HoN1.out #[.string q, .int .i64 ((ix : Int)), .int .i64 x.mode] rfl (by first | rfl | simp) rfl (node3_one _ _ _) (by unfold maxLen; omega) (by omega) (Nat.le_of_lt hU1.lt) ?_; intro g6 c6 w6 ho6 hg6 hat6; have hU6 := hU1.grown hg6 (hU1.ne_row HoN1.out (by decide)); have y0 := hU6.cell 0; have z0 := hU6.frozen 0)
              have HoF6 := Lib.hid (own_keep HoF1.out fun g o e => hg6.block g (own_lt2 (by rw [← e]; exact HoF1.out)).2.1 (row_ne_row HoF1.out HoN1.out (by decide) (by rw [e]; rfl)))
              have HFR6 := Lib.hid (HFR1.out.grown hg6 (HFR1.out.not_row HDS.out HoN1.out (by decide)))
              have hMb6 := hMb1.kept hg6 (hMb1.ne_row HoN1.out)
              have hb6 := hb1.trans (below_grown hg6 hsb (fun g e => by have := own_blk1 HoN1.out g e; omega))
              go_roundw
              case rel =>
                refine ⟨k + 1, by omega, by go_num, some ⟨g6, 0, none⟩, FA, c6, fc, fl, fs, hU6.set 0 _, ?_, own_blkset HoF6.out hU6 (by decide) _ _, Hfl.out, ?_, ?_, HFR6.out.blkset HDS.out hU6 (by decide) _ _, ?_, hb6.setCell (p := ⟨ub, 0, none⟩) hubm.1 _⟩
                · have e : (((S.take (k + 1)).map (reN (idsL (S.take (k + 1))))).flatMap Node.list) = ((S.take k).map (reN (idsL (S.take k)))).flatMap Node.list ++ [.string q, .int .i64 ((ix : Int)), .int .i64 x.mode] := by
                    rw [Hmr.out, Hre.out, nodes_snoc, ← Hxp.out]; rfl
                  rw [e]
                  exact own_blkset ho6 hU6 (by decide) _ _
                · rw [Hids.out]; exact HflI.out
                · rw [Hids.out]; exact Hfm.out
                · rw [Hids.out]; exact hMb6.set_ne _ _ (fun e => hubm.2.2 e.symm)
              case measure => simp [intOf]; omega
            · have hids : idsL (S.take (k + 1)) = idsL (S.take k) ++ [x.file] := by rw [Hid1.out, idStep, if_neg (fun h => h.elim hdir hin)]
              have hre : reN (idsL (S.take (k + 1))) x = ⟨x.path, (fl : Int), x.mode, x.hp⟩ := by
                rw [reN, if_neg hdir, hids]
                congr 2
                rw [List.idxOf_append, if_neg hin, HflI.out]
                simp
              have hg1 : (getV (freshE (idsL (S.take k))) x.file).getD (.int .i64 0) = .int .i64 0 := by rw [freshE_get, if_neg hin]; rfl
              have hg2 : (getV (freshE (idsL (S.take k))) x.file).isSome = false := by rw [freshE_get, if_neg hin]; rfl
              have hpt : putV (freshE (idsL (S.take k))) x.file (.int .i64 (fl : Nat)) = freshE (idsL (S.take (k + 1))) := by rw [hids, HflI.out]; exact freshE_put hin
              have hfrl : (freshE (idsL (S.take k))).length < maxLen := by simp only [freshE, List.length_map]; unfold maxLen; omega
              have Hids := Lib.hid hids; have Hre := Lib.hid hre; have Hg1 := Lib.hid hg1; have Hg2 := Lib.hid hg2; have Hpt := Lib.hid hpt
              have hdir' : (0 : Int) ≤ x.file := by omega
              have hok : intK.ok x.file := wf_i64 hxr.1 hxr.2
              clear hids hre hg1 hg2 hpt hin
              go_upto_region 17 with (refine wpList_mv_ok (k := 3) rfl Try.mtFresh _ _ rfl rfl hMb1 (T := intK) (q := x.file) rfl hok Hg1.out Hg2.out ?_)
              go_upto_region 18 with (refine wpList_mv_put (k := 3) rfl Try.mtFresh _ _ _ (.inl rfl) rfl hMb1 (T := intK) (q := x.file) rfl hok (v := .int .i64 (fl : Nat)) rfl hfrl ?_; intro w5 hm5 hg5 hs5)
              rw [Hpt.out] at hm5
              have hU5 := hU1.grown hg5 (fun e => by injection e with e; exact hU1.ne_map hMb1 e)
              have hX5 := hX.grown hg5 (fun e => by injection e with e; exact hX.ne_map hMb1 e)
              have HoN5 := Lib.hid (own_keep HoN1.out fun g o e => hg5.block g (own_lt2 (by rw [← e]; exact HoN1.out)).2.1 (fun e2 => hMb1.ne_row HoN1.out (by rw [← e2, e]; rfl)))
              have HoF5 := Lib.hid (own_keep HoF1.out fun g o e => hg5.block g (own_lt2 (by rw [← e]; exact HoF1.out)).2.1 (fun e2 => hMb1.ne_row HoF1.out (by rw [← e2, e]; rfl)))
              have HFR5 := Lib.hid (HFR1.out.grown hg5 (HFR1.out.not_map HDS.out hMb1))
              have hb5 := hb1.trans (below_grown hg5 hsb (fun g e => by injection e with e; omega))
              have hW5 := HM3.out.keep (grown_below hb5 (Nat.le_refl _))
              have hsb5 := hb5.size
              clear n0 n1 u0 u1 hU1 hX HoN1 HoF1 HFR1 hMb1 hb1 hg5 hsb hs5
              obtain ⟨m0, hm1, hm2, hm3⟩ := mf_of_pf HO.out (Hxfi.out.resolve_left hdir)
              have hF : M.F x.file = (m0.mode, m0.data) := by rw [PW.F, fileOf_mf HO.out, hm1]; rfl
              have hgf : (getV (msE ms) x.file).getD (.pointer none) = .pointer (some ⟨m0.g, 0, none⟩) := by rw [msE_get, hm1]; rfl
              have hmb5 := hW5.fblk m0 hm2
              unfold MF.cells at hmb5
              have hmd := hW5.fdat m0 hm2
              have hmn : m0.n ≤ 1000000 := by
                rw [← hmd.1]
                have : m0.pf ∈ M.files := by rw [← HO.out.mfs]; exact List.mem_map.2 ⟨m0, hm2, rfl⟩
                exact hds _ this
              have hmg : m0.g < w3.heap.size := (HM3.out.fblk m0 hm2).lt
              have HF := Lib.hid hF; have Hgf := Lib.hid hgf; have Hmd := Lib.hid hmd
              clear hF hgf hmd hm1 hm2 hm3
              have n0 := hX5.cell 0
              have n1 := hX5.cell 1
              have u1 := hU5.cell 1
              have p1 := hW5.blk.cell 1
              have f0 := hmb5.cell 0
              have f2 := hmb5.cell 2
              have hwl := hW5.blk.lt
              have hXl := hX5.lt
              have hUl := hU5.lt
              have hfl2 := hmb5.lt
              have hml := fun (w' : World) (hh : ∀ b, b < w5.heap.size → w'.heap[b]? = w5.heap[b]?) => hW5.files.keep (hh fb hW5.files.lt)
              have Hml := Lib.hid hml; clear hml
              refine wp_region_ordB (none) [(0, true), (1, true), (2, true), (3, true), (4, true), (5, true), (6, true), (7, true)] (by kernel_rfl) (by kernel_rfl) fun hG0 => ?_
              repeat (first
                | (refine ord_skipB rfl (by rfl) ?_; simp only [Act.put, List.setIfInBounds_toArray, List.set_cons_zero, List.set_cons_succ])
                | (refine ord_qH rfl (by rfl) (fun w' hh => exec_mv_look Try.mtFiles rfl rfl rfl (Hml.out w' fun b hb => hh b hb (by simp)) hok Hgf.out) ?_; simp only [Act.put, List.setIfInBounds_toArray, List.set_cons_zero, List.set_cons_succ])
                | (refine ord_qE rfl (by rfl) ?_; apply Exists.intro; refine ⟨fun w' hc' => ?_, ?_⟩; (focus (go_simp; (try go_bits); (try simp only [↓IntWalk.iteOmega]); with_reducible rfl)); simp only [Act.put, List.setIfInBounds_toArray, List.set_cons_zero, List.set_cons_succ]))
              refine ord_end ?_
              go_upto_region 19 with (fail)
              obtain ⟨W6, hW6⟩ : ∃ W6, W6 = w5.drew := ⟨_, rfl⟩
              replace hU5 : Blk W6 ub 25 #[.slice NA k nc, .slice FA fl fc] := by rw [hW6]; exact hU5.grown hG0 (by simp)
              replace hX5 : Blk W6 nk 75 #[.int .i64 x.file, .int .i64 x.mode] := by rw [hW6]; exact hX5.grown hG0 (by simp)
              replace hmb5 : Blk W6 m0.g 79 #[.int .i64 m0.mode, .int .i64 m0.cnt, .slice m0.A m0.n m0.c] := by rw [hW6]; exact hmb5.grown hG0 (by simp)
              replace HoN5 : Hid (W6.ownsRow ub 46 3 (.slice NA k nc) k (((S.take k).map (reN (idsL (S.take k)))).flatMap Node.list)) := by rw [hW6]; exact Lib.hid (own_drew HoN5.out)
              replace HoF5 : Hid (W6.ownsRow ub 49 2 (.slice FA fl fc) fl (fs.flatMap FC.list)) := by rw [hW6]; exact Lib.hid (own_drew HoF5.out)
              replace HFR5 : Hid (FRows W6 ub fs ((idsL S).map fun i => (M.F i).2)) := by rw [hW6]; exact Lib.hid (HFR5.out.grown hG0 (fun _ _ _ _ _ e => by cases e))
              have hMb5 : MapV intK W6 mb (freshE (idsL (S.take (k + 1)))) := by rw [hW6]; exact hm5.kept hG0 (by simp)
              replace hb5 : Below w3.heap.size w3 W6 := by rw [hW6]; exact hb5.trans (below_grown hG0 hsb5 (fun g e => by cases e))
              have HmS : Hid (Sl W6 W6.heap.size 1 m0.A m0.n (bytesC m0.data)) := by rw [hW6]; exact Lib.hid ((Hmd.out.2.below (Below.refl _ w5).drew hW5.size).more hW5.size)
              rw [← hW6]
              replace HmS : Hid (Sl W6.drew W6.drew.heap.size 1 m0.A m0.n (bytesC m0.data)) := HmS
              clear hW6 hG0 n0 n1 u1 p1 f0 f2 hwl hXl hUl hfl2 Hml hm5 hW5
              replace hsb5 := hb5.size
              have u1 := hU5.cell 1
              have f0 := hmb5.cell 0
              have f2 := hmb5.cell 2
              have hUl := hU5.lt
              have hfl2 := hmb5.lt
              have hneU : ¬ some ub = blkOf FA := hU5.ne_row HoF5.out (by decide)
              have hneF : ¬ some m0.g = blkOf FA := hmb5.ne_row HoF5.out (by decide)
              have hbse : ub ≤ W6.heap.size := by omega
              refine wp_region_ordG (blkOf FA) [(0, true), (1, true), (2, true), (3, true), (4, true), (5, true), (6, true), (7, true), (8, true), (9, true), (10, false), (11, true), (12, false), (13, false), (14, true)] 15 (by kernel_rfl) (by kernel_rfl) fun hG0 => ?_
              repeat (first
                | (refine ord_skipB rfl (by rfl) ?_; simp only [Act.put, List.setIfInBounds_toArray, List.set_cons_zero, List.set_cons_succ])
                | (refine ord_qE rfl (by rfl) ?_; apply Exists.intro; refine ⟨fun w' hc' => ?_, ?_⟩; (focus (go_simp; (try go_bits); (try simp only [↓IntWalk.iteOmega]); with_reducible rfl)); simp only [Act.put, List.setIfInBounds_toArray, List.set_cons_zero, List.set_cons_succ]))
              refine ord_eB rfl fun K hK => ?_
              go_wp2_with (go_at_call 22; refine (clone_any m0.data m0.A m0.n m0.c _ Hmd.out.1 hmn HmS.out).mono ?_; rintro e w7 ⟨A4, c4, rfl, ho7, hb7⟩)
              have hG1 := grown_trans hG0 (grown_any (grown_below hb7 (Nat.le_refl _)))
              refine hK.out _ _ hG1 ?_
              clear hK K
              repeat (first
                | (refine ord_skipB rfl (by rfl) ?_; simp only [Act.put, List.setIfInBounds_toArray, List.set_cons_zero, List.set_cons_succ])
                | (refine ord_qE rfl (by rfl) ?_; apply Exists.intro; refine ⟨fun w' hc' => ?_, ?_⟩; (focus (go_simp; (try go_bits); (try simp only [↓IntWalk.iteOmega]); with_reducible rfl)); simp only [Act.put, List.setIfInBounds_toArray, List.set_cons_zero, List.set_cons_succ]))
              have hg7 : W6.grownBy w7 none := grown_trans (grown_drew W6 none) (grown_below hb7 (Nat.le_refl _))
              have HoF7 := Lib.hid (own_keep1 HoF5.out (below_grown hg7 (Nat.le_refl _) (fun g e => by cases e)) (Nat.le_refl _))
              repeat (first
                | (refine ord_skipB rfl (by rfl) ?_; simp only [Act.put, List.setIfInBounds_toArray, List.set_cons_zero, List.set_cons_succ])
                | (refine ord_qE rfl (by rfl) ?_; apply Exists.intro; refine ⟨fun w' hc' => ?_, ?_⟩; (focus (go_simp; (try go_bits); (try simp only [↓IntWalk.iteOmega]); with_reducible rfl)); simp only [Act.put, List.setIfInBounds_toArray, List.set_cons_zero, List.set_cons_succ]))
              refine ord_eB rfl fun K hK => ?_
              go_wp2_with (fail)
              have hG2 := grown_trans hG1 (World.grownBy_alloc w7 (.cells #[.int .i64 m0.mode, .slice A4 m0.n c4] 49) (blkOf FA))
              refine hK.out _ _ hG2 ?_
              clear hK K
              repeat (first
                | (refine ord_skipB rfl (by rfl) ?_; simp only [Act.put, List.setIfInBounds_toArray, List.set_cons_zero, List.set_cons_succ])
                | (refine ord_qE rfl (by rfl) ?_; apply Exists.intro; refine ⟨fun w' hc' => ?_, ?_⟩; (focus (go_simp; (try go_bits); (try simp only [↓IntWalk.iteOmega]); with_reducible rfl)); simp only [Act.put, List.setIfInBounds_toArray, List.set_cons_zero, List.set_cons_succ]))
              refine ord_eB rfl fun K hK => ?_
              go_wp2_with (at_builtin; refine wpList_append_one rfl _ _ _ rfl Try.fileT rfl HoF7.out #[.int .i64 m0.mode, .slice A4 m0.n c4] rfl (by first | rfl | simp) rfl (file_one _ _ _ _) (by unfold maxLen; omega) (by omega) (Nat.le_trans hbse hG1.size) ?_; intro g8 c8 w8 ho8 hg8 hat8)
              have hG3 := grown_trans hG1 hg8
              refine hK.out _ _ hG3 ?_
              clear hK K
              repeat (first
                | (refine ord_skipB rfl (by rfl) ?_; simp only [Act.put, List.setIfInBounds_toArray, List.set_cons_zero, List.set_cons_succ])
                | (refine ord_qE rfl (by rfl) ?_; apply Exists.intro; refine ⟨fun w' hc' => ?_, ?_⟩; (focus (go_simp; (try go_bits); (try simp only [↓IntWalk.iteOmega]); with_reducible rfl)); simp only [Act.put, List.setIfInBounds_toArray, List.set_cons_zero, List.set_cons_succ]))
              have hU8 := hU5.grown hG3 hneU
              have q1 := hU8.cell 1
              have q1f := hU8.frozen 1
              refine ord_tail rfl fun K hK => ?_
              go_wp2_with (fail)
              refine hK.out _ _ ?_
              clear hK K
              clear u1 f0 f2 q1 q1f hUl hfl2
              have HoN8 := Lib.hid (own_keep HoN5.out fun g o e => hG3.block g (own_lt2 (by rw [← e]; exact HoN5.out)).2.1 (row_ne_row HoN5.out HoF5.out (by decide) (by rw [e]; rfl)))
              have HR7 := Lib.hid (HFR5.out.grown hg7 (fun _ _ _ _ _ e => by cases e))
              have HR8 := Lib.hid (HR7.out.grown hg8 (HR7.out.not_row HDS.out HoF7.out (by decide)))
              have HA8 := Lib.hid (own_base (own_keep ho7 fun g o e => hg8.block g (own_lt2 (by rw [← e]; exact ho7)).2.1 (row_ne_row ho7 HoF7.out (by decide) (by rw [e]; rfl))) hbse)
              have hlow : ∀ b', blkOf A4 = some b' → b' < w8.heap.size ∧ ∀ (j : Nat) (g : FC), fs[j]? = some g → blkOf g.A ≠ some b' := fun b' hb' => by
                have hge := own_blk1 ho7 b' hb'
                refine ⟨?_, fun j g hj hg => ?_⟩
                · rcases A4 with _ | ⟨b2, o2, s2⟩
                  · cases hb'
                  · simp only [blkOf, Option.some.injEq] at hb'
                    subst hb'
                    exact Nat.lt_of_lt_of_le (own_lt2 ho7).2.1 hg8.size
                · have := HFR5.out.low j g b' hj hg
                  have h7 : W6.drew.heap.size = W6.heap.size := rfl
                  omega
              have hDx : ((idsL S).map fun i => (M.F i).2)[fs.length]? = some m0.data := by
                obtain ⟨r, hr⟩ := idsL_pre (S.take (k + 1)) (S.drop (k + 1))
                rw [List.take_append_drop, Hids.out] at hr
                rw [hr, Hfl.out, HflI.out, List.getElem?_map, List.append_assoc, List.getElem?_append_right (Nat.le_refl _)]
                simp [HF.out]
              have HR9 := Lib.hid (HR8.out.snoc (f := ⟨m0.mode, A4, m0.n, c4⟩) hDx Hmd.out.1.symm HA8.out hlow)
              have hDS2 : (fs ++ [(⟨m0.mode, A4, m0.n, c4⟩ : FC)]).length ≤ ((idsL S).map fun i => (M.F i).2).length := by
                have := (List.getElem?_eq_some_iff.1 hDx).1
                simp only [List.length_append, List.length_cons, List.length_nil]; omega
              have HDS2 := Lib.hid hDS2
              have hX8 := hX5.grown hG3 (hX5.ne_row HoF5.out (by decide))
              have hMb8 := hMb5.kept hG3 (hMb5.ne_row HoF5.out)
              have hb8 := hb5.trans (below_grown hG3 hsb5 (fun g e => by have := own_blk1 HoF5.out g e; omega))
              have HFS2 := Lib.hid (show (fs ++ [(⟨m0.mode, A4, m0.n, c4⟩ : FC)]).flatMap FC.list = fs.flatMap FC.list ++ [.int .i64 m0.mode, .slice A4 m0.n c4] by simp [FC.list])
              have HFM2 := Lib.hid (show (fs ++ [(⟨m0.mode, A4, m0.n, c4⟩ : FC)]).map (·.mode) = (idsL (S.take (k + 1))).map (fun i => (M.F i).1) by rw [Hids.out, List.map_append, List.map_append, Hfm.out]; simp [HF.out])
              have HFL2 := Lib.hid (show (fs ++ [(⟨m0.mode, A4, m0.n, c4⟩ : FC)]).length = fl + 1 by rw [List.length_append, Hfl.out]; rfl)
              have HFI2 := Lib.hid (show fl + 1 = (idsL (S.take (k + 1))).length by rw [Hids.out, List.length_append, HflI.out]; rfl)
              have HoF8 : Hid (w8.ownsRow ub 49 2 (.slice (some ⟨g8, 0, none⟩) (fl + 1) c8) (fl + 1) ((fs ++ [(⟨m0.mode, A4, m0.n, c4⟩ : FC)]).flatMap FC.list)) := by rw [HFS2.out]; exact Lib.hid ho8
              obtain ⟨fs2, hfs2⟩ : ∃ fs2, fs2 = fs ++ [(⟨m0.mode, A4, m0.n, c4⟩ : FC)] := ⟨_, rfl⟩
              rw [← hfs2] at HR9 HDS2 HFM2 HFL2 HoF8
              clear hfs2 HFS2 hDS2 hDx hlow hG0 hG1 hG2 hg7 hg8 ho7 ho8 hat8 hb7 HoF7 HR7 HR8 HA8 HoF5 HoN5 HFR5 hU5 hX5 hMb5 hb5 hmb5 hneU hneF hG3
              have hU1 := hU8.set 1 (.slice (some ⟨g8, 0, none⟩) (fl + 1) c8)
              have HoN1 := Lib.hid (own_blkset HoN8.out hU8 (by decide) 1 (.slice (some ⟨g8, 0, none⟩) (fl + 1) c8))
              have HoF1 := Lib.hid (own_blkset HoF8.out hU8 (by decide) 1 (.slice (some ⟨g8, 0, none⟩) (fl + 1) c8))
              have HFR1 := Lib.hid (HR9.out.blkset HDS2.out hU8 (by decide) 1 (.slice (some ⟨g8, 0, none⟩) (fl + 1) c8))
              have hMb1 := hMb8.set_ne ⟨ub, 1, none⟩ (.slice (some ⟨g8, 0, none⟩) (fl + 1) c8) (fun e => hubm.2.2 e.symm)
              have hX1 := hX8.set_ne ⟨ub, 1, none⟩ (.slice (some ⟨g8, 0, none⟩) (fl + 1) c8) hnku.1
              have hb1 := hb8.setCell (p := ⟨ub, 1, none⟩) hubm.1 (.slice (some ⟨g8, 0, none⟩) (fl + 1) c8)
              clear hU8 HoN8 HoF8 HR9 hMb8 hX8 hb8
              go_upto_region 20 with (fail)
              obtain ⟨V1, hV1⟩ : ∃ V1, V1 = w8.setCell ⟨ub, 1, none⟩ (.slice (some ⟨g8, 0, none⟩) (fl + 1) c8) := ⟨_, rfl⟩
              rw [← hV1] at hX1 hU1 HoN1 HoF1 HFR1 hMb1 hb1 ⊢
              clear hV1
              have n0 := hX1.cell 0
              have zz := hX1.frozen 0
              go_upto_region 21 with (fail)
              replace hU1 := hU1.set_ne ⟨nk, 0, none⟩ (.int .i64 (fl : Nat)) (fun e => hnku.1 e.symm)
              replace HoN1 := Lib.hid (own_blkset HoN1.out hX1 (by decide) 0 (.int .i64 (fl : Nat)))
              replace HoF1 := Lib.hid (own_blkset HoF1.out hX1 (by decide) 0 (.int .i64 (fl : Nat)))
              replace HFR1 := Lib.hid (HFR1.out.blkset HDS2.out hX1 (by decide) 0 (.int .i64 (fl : Nat)))
              replace hMb1 := hMb1.set_ne ⟨nk, 0, none⟩ (.int .i64 (fl : Nat)) (fun e => hnku.2 e.symm)
              replace hb1 := hb1.setCell (p := ⟨nk, 0, none⟩) hnkw (.int .i64 (fl : Nat))
              replace hX1 := hX1.set 0 (.int .i64 (fl : Nat))
              obtain ⟨V2, hV2⟩ : ∃ V2, V2 = V1.setCell ⟨nk, 0, none⟩ (.int .i64 (fl : Nat)) := ⟨_, rfl⟩
              rw [← hV2] at hX1 hU1 HoN1 HoF1 HFR1 hMb1 hb1 ⊢
              clear hV2 n0 zz
              have hsb := hb1.size
              have n0 := hX1.cell 0
              have n1 := hX1.cell 1
              have u0 := hU1.cell 0
              go_wp2_with (at_builtin; refine wpList_append_one rfl _ _ _ rfl Try.nodeT rfl HoN1.out #[.string q, .int .i64 ((fl : Int)), .int .i64 x.mode] rfl (by first | rfl | simp) rfl (node3_one _ _ _) (by unfold maxLen; omega) (by omega) (Nat.le_of_lt hU1.lt) ?_; intro g6 c6 w6 ho6 hg6 hat6; have hU6 := hU1.grown hg6 (hU1.ne_row HoN1.out (by decide)); have y0 := hU6.cell 0; have z0 := hU6.frozen 0)
              have HoF6 := Lib.hid (own_keep HoF1.out fun g o e => hg6.block g (own_lt2 (by rw [← e]; exact HoF1.out)).2.1 (row_ne_row HoF1.out HoN1.out (by decide) (by rw [e]; rfl)))
              have HFR6 := Lib.hid (HFR1.out.grown hg6 (HFR1.out.not_row HDS2.out HoN1.out (by decide)))
              have hMb6 := hMb1.kept hg6 (hMb1.ne_row HoN1.out)
              have hb6 := hb1.trans (below_grown hg6 hsb (fun g e => by have := own_blk1 HoN1.out g e; omega))
              go_roundw
              case rel =>
                refine ⟨k + 1, by omega, by go_num, some ⟨g6, 0, none⟩, (some ⟨g8, 0, none⟩), c6, c8, (fl + 1), fs2, hU6.set 0 _, ?_, own_blkset HoF6.out hU6 (by decide) _ _, HFL2.out, ?_, ?_, HFR6.out.blkset HDS2.out hU6 (by decide) _ _, ?_, hb6.setCell (p := ⟨ub, 0, none⟩) hubm.1 _⟩
                · have e : (((S.take (k + 1)).map (reN (idsL (S.take (k + 1))))).flatMap Node.list) = ((S.take k).map (reN (idsL (S.take k)))).flatMap Node.list ++ [.string q, .int .i64 ((fl : Int)), .int .i64 x.mode] := by
                    rw [Hmr.out, Hre.out, nodes_snoc, ← Hxp.out]; rfl
                  rw [e]
                  exact own_blkset ho6 hU6 (by decide) _ _
                · exact HFI2.out
                · exact HFM2.out
                · exact hMb6.set_ne _ _ (fun e => hubm.2.2 e.symm)
              case measure => simp [intOf]; omega
        · obtain rfl : k = n := by omega
          have hSt : S.take k = S := List.take_of_length_le (by rw [HSn.out]; exact Nat.le_refl _)
          rw [hSt] at HoN HflI Hfm
          have hRl := HR3.out.lt
          have hRw := HR3.out.below hb hRl
          have u0 := hU.cell 0
          have u1 := hU.cell 1
          go_wp2_with (refine wpList_store_blk rfl 25 (.tmp 2) (.tmp 96) rfl hRw #[.slice NA k nc, .slice FA fl fc] rfl rfl (show (Try.prog.info? 25).map (·.size) = some 2 by kernel_rfl) rfl (by simp [Value.oneCell']) ?_; intro w9 hB9 hg9 hs9)
          refine ret_cell1 (v := .agg #[.slice NA k nc, .slice FA fl fc]) (ad := ⟨w.heap.size, 0, none⟩) rfl rfl (load_blk hB9 Try.underlying25 rfl (show (Try.prog.info? 25).map (·.size) = some 2 by kernel_rfl)) rfl ?_
          have hle : w.heap.size ≤ ub := by omega
          refine ⟨S, ⟨S.map (reN (idsL S)), fs, NA, k, nc, FA, fl, fc⟩, HSp.out, HSr.out, rfl, rfl, HSn.out.symm, HflI.out, Hfl.out, Hfm.out, ?_, ?_, ?_, ?_⟩
          · exact own_base (own_keep HoN.out fun g o (e : NA = _) => hg9.block g (own_lt2 (by rw [← e]; exact HoN.out)).2.1 (fun e2 => hRw.ne_row HoN.out (by decide) (by rw [← e2, e]; rfl))) hle
          · exact own_base (own_keep HoF.out fun g o (e : FA = _) => hg9.block g (own_lt2 (by rw [← e]; exact HoF.out)).2.1 (fun e2 => hRw.ne_row HoF.out (by decide) (by rw [← e2, e]; rfl))) hle
          · exact (HFR.out.grown hg9 (fun j f b' hf hb' e2 => by
              have hk2 : j < ((idsL S).map fun i => (M.F i).2).length := by have := (List.getElem?_eq_some_iff.1 hf).1; have := HDS.out; omega
              exact hRw.ne_row (HFR.out.row j f _ hf (List.getElem?_eq_getElem hk2)).2 (by decide) (by rw [← e2, hb']))).base hle
          · exact (Hb3.out.trans (hb.mono (by omega))).trans (below_grown hg9 (by omega) (fun g e => by injection e with e; omega))
    | cons p0 t0 =>
      have hne : todo ≠ [] := by rw [htd]; simp
      clear htd
      have hdl : done.length ≤ 1000000 := by
        have := hp.length_eq
        simp only [List.length_append, List.length_map] at this
        omega
      have Hp := Lib.hid hp; have Ho := Lib.hid ho; have Hne := Lib.hid hne; clear hp ho hne
      obtain ⟨n, hn⟩ : ∃ n, done.length = n := ⟨_, rfl⟩
      rw [hn] at Ho hdl ⊢
      have Hn := Lib.hid hn; clear hn
      have hsb := hb.size
      go_wp2_with (first | (refine wpList_mr_cons rfl _ rfl Hne.out rfl hMR ?_; intro q v w4 cnt4 hm4 hok4 hMR4 hc4 hg4 hs4 hen4; have hen5 : (Instr.entry (.pointer (some ⟨W1.heap.size, 0, none⟩))).run Try.prog w4 = .ok (.tuple #[.string q, v]) w4 := hen4; clear hen4; have HO4 := Lib.hid (own_keep Ho.out fun g o e => hg4.block g (own_lt2 (by rw [← e]; exact Ho.out)).2.1 (fun e2 => hMR.ne_row Ho.out (by rw [← e2, e]; rfl)))) | (at_builtin; refine wpList_append_one rfl _ _ _ rfl Try.strT rfl HO4.out #[.string q] rfl (by first | rfl | exact hs4.symm) rfl (str_one q) (by unfold maxLen; omega) (by omega) (by omega) ?_; intro g5 c5 w5 ho5 hg5 hat5))
      have hw4 : w4.heap.size < (w4.alloc (.cells #[.string q] 9)).heap.size := by simp
      have hlt := hMR4.lt
      have hltR := hR.lt
      go_roundw
      case rel =>
        have hq : q ∈ keysV todo := key_mem hm4
        have hnd : (keysV todo).Nodup := hMR.2.1
        have hperm : ((done ++ [q]) ++ keysV (delV todo q)).Perm (M.nodes.map (·.path)) := by
          refine List.Perm.trans ?_ Hp.out
          rw [List.append_assoc]
          exact List.Perm.append_left _ (erase_keys hnd hq).symm
        have hb4 := hb.trans (below_grown hg4 (by omega) (fun g e => by injection e with e; omega))
        have hR4 := hR.grown hg4 (fun e => by injection e with e; omega)
        have hnr := hMR4.ne_row HO4.out
        have hmr := hMR4.map.ne_row HO4.out
        refine ⟨some ⟨g5, 0, none⟩, c5, done ++ [q], delV todo q, cnt4, by simp [Hn.out], hMR4.kept hg5 hmr hnr, hperm, ?_, hR4.grown hg5 (hR4.ne_row HO4.out (by decide)), hrb, hb4.trans (below_grown hg5 (by omega) (fun g e => (own_blk1 HO4.out g e)))⟩
        rw [List.length_append, Hn.out, strs_snoc]
        exact ho5
      case measure =>
        have hnr := hMR4.ne_row HO4.out
        have hmr := hMR4.map.ne_row HO4.out
        rw [(hMR4.kept hg5 hmr hnr).left_eq, hMR.left_eq]
        exact hc4
end Go.Proofs.Ytanaccoelifcpaa
