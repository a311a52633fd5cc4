/- tree.Weight, the second half: the map's lengths and the files' lengths, weighed and summed. -/
import Derived.Test.YtdjlchbgdehccaaWeight
import Derived.Test.YtdjlchbgdehccaaRounds
namespace Go.Proofs.Ytdjlchbgdehccaa
open Go.RowKit Go.Shelf

/-- What is left of a body behind its first k statements. -/
def tailOf : Nat → Code → Code
  | 0, c => c
  | k + 1, .seq _ b => tailOf k b
  | _ + 1, c => c
theorem Try.tollT : ElemT Try.prog 76 32 1 16 := ElemT.mk' (z := .complex .f64 0 0) Try.underlying76 (by kernel_rfl) rfl (by omega)
theorem own_lt' {w : World} {base e sz g o n c : Nat} {L : List Value} (h : w.ownsRow base e sz (.slice (some ⟨g, o, none⟩) n c) n L) : base ≤ g ∧ g < w.heap.size ∧ o = 0 := by
  rcases h.2 with ⟨h', _⟩ | ⟨g', cap, cur, hv, hg, hh, hnc, hcm, hcs, ht⟩
  · cases h'
  · injection hv with hA _ hC
    injection hA with hA
    injection hA with hA ho
    subst hA ho
    exact ⟨hg, (Array.getElem?_eq_some_iff.1 hh).1, rfl⟩
theorem own_below' {w w' : World} {base e sz n c B : Nat} {A : Option Addr} {L : List Value} (h : w.ownsRow base e sz (.slice A n c) n L) (hb : Below B w w') (hB : w.heap.size ≤ B) : w'.ownsRow base e sz (.slice A n c) n L :=
  own_keep h fun g o e => by subst e; exact hb.block g (Nat.lt_of_lt_of_le (own_lt' h).2.1 hB)
theorem own_blk' {w : World} {base e sz n c : Nat} {A : Option Addr} {L : List Value} (h : w.ownsRow base e sz (.slice A n c) n L) : ∀ g, blkOf A = some g → base ≤ g := fun g hg => by
  cases A with
  | none => cases hg
  | some ad =>
    obtain ⟨b, o, p⟩ := ad
    rcases h.2 with ⟨h', _⟩ | ⟨g', cap, cur, hv, hg', hh, hnc, hcm, hcs, ht⟩
    · cases h'
    · injection hv with hA _ hC
      injection hA with hA
      injection hA with hA _ _
      subst hA
      have : b = g := by simpa [blkOf] using hg
      omega
theorem own_grown' {w w' : World} {base e sz n c r : Nat} {A : Option Addr} {L : List Value} (h : w.ownsRow base e sz (.slice A n c) n L) (hg : w.grownBy w' (some r)) (hr : r < base) : w'.ownsRow base e sz (.slice A n c) n L :=
  own_keep h fun g o e => by subst e; exact hg.block g (own_lt' h).2.1 (by intro e; injection e with e; have := (own_lt' h).1; omega)
theorem ne_blk {w : World} {base e sz n c r : Nat} {A : Option Addr} {L : List Value} (h : w.ownsRow base e sz (.slice A n c) n L) (hr : r < base) : some r ≠ blkOf A := fun e => by have := own_blk' h r e.symm; omega
def dirT (g : List UInt8 → Nat) (k : List UInt8) : Nat × Nat := (dirW (g k), 1)
def fileT (x : FC) : Nat × Nat := (fileW x.n, 1)
def weightL (ks : List (List UInt8)) (g : List UInt8 → Nat) (fs : List FC) : List (Nat × Nat) := ks.map (dirT g) ++ fs.map fileT
theorem s1_perm {xs ys : List (Nat × Nat)} (h : xs.Perm ys) : s1 xs = s1 ys := (h.map Prod.fst).sum_nat
theorem s2_perm {xs ys : List (Nat × Nat)} (h : xs.Perm ys) : s2 xs = s2 ys := (h.map Prod.snd).sum_nat
theorem SmallSum.perm {xs ys : List (Nat × Nat)} (h : SmallSum xs) (hp : xs.Perm ys) : SmallSum ys :=
  ⟨fun x hx => h.each x (hp.mem_iff.2 hx), s1_perm hp ▸ h.t1, s2_perm hp ▸ h.t2⟩
/-- The range over the map, under way. -/
def DirsAt (base : Nat) (W : World) (mb r cnt : Nat) (g : List UInt8 → Nat) (ks : List (List UInt8)) (l : Value) (wr : World) : Prop :=
  ∃ A n c dn todo cnt', l = .slice A n c ∧ wr.ownsRow base 32 1 (.slice A n c) n ((dn.map (dirT g)).flatMap tollC) ∧ n = dn.length ∧ KR wr mb r cnt (fun k => (g k : Int)) todo cnt' ∧ (dn ++ todo).Perm ks ∧ Below W.heap.size W wr
def FilesAt (base : Nat) (W : World) (D : List (Nat × Nat)) (fs : List FC) (j : Nat) (l : Value) (wr : World) : Prop :=
  ∃ A c, l = .slice A (D.length + j) c ∧ wr.ownsRow base 32 1 (.slice A (D.length + j) c) (D.length + j) ((D ++ (fs.take j).map fileT).flatMap tollC) ∧ Below W.heap.size W wr
theorem wpList_kr_end {ops : Array Oper} {rest : List Oper} {o : Oper} {a : Act} {Q : Exit → Act → World → Prop} {w : World} (hg : o.guard = none) (it : Operand) (hop : o.op = Op.next it false) {b r n cnt : Nat} {f : List UInt8 → Int} (hit : a.eval it = .pointer (some ⟨r, 0, none⟩)) (h : KR w b r n f [] cnt)
    (hDone : wpList Try.prog ops Q rest (a.put o.dst (.tuple #[.bool false])) w) : wpList Try.prog ops Q (o :: rest) a w :=
  wpList_kr_next hg it hop hit h (fun _ => hDone) (fun s w' cnt' hm => by cases hm)
theorem wpList_kr_more {ops : Array Oper} {rest : List Oper} {o : Oper} {a : Act} {Q : Exit → Act → World → Prop} {w : World} (hg : o.guard = none) (it : Operand) (hop : o.op = Op.next it false) {b r n cnt : Nat} {f : List UInt8 → Int} {todo : List (List UInt8)} (hit : a.eval it = .pointer (some ⟨r, 0, none⟩)) (h : KR w b r n f todo cnt) (hne : todo ≠ [])
    (hMore : ∀ (s : ByteArray) (w' : World) (cnt' : Nat), s.data.toList ∈ todo → KR w' b r n f (todo.erase s.data.toList) cnt' → cnt' < cnt → w.grownBy w' (some r) → w'.heap.size = w.heap.size →
      (Instr.entry (.pointer (some ⟨r, 0, none⟩))).run Try.prog w' = .ok (.tuple #[.string s, .int .i64 (f s.data.toList)]) w' → wpList Try.prog ops Q rest (a.put o.dst (.tuple #[.bool true, .string s, .int .i64 (f s.data.toList)])) w') :
    wpList Try.prog ops Q (o :: rest) a w :=
  wpList_kr_next hg it hop hit h (fun e => absurd e hne) hMore
set_option maxRecDepth 1000000 in
set_option maxHeartbeats 4000000 in
theorem weight_tail {u0 u4 u7 u8 u9 u10 u11 u12 u13 u14 u15 u16 u17 u18 u19 u20 u21 u22 u23 u24 u25 u26 u27 u28 u29 u30 u31 u32 u33 u34 u35 u36 u37 u38 u39 u40 u41 u42 u43 u44 u45 u46 u47 u48 u49 u50 u51 u52 u53 u54 u55 u56 u57 u58 u59 u60 u61 u62 u63 u64 u65 : Value} {Q : Exit → Act → World → Prop} {ds : List Deferred} {w W : World} {mb cnt tb c5 : Nat} {ks : List (List UInt8)} {g : List UInt8 → Nat} {files : List FC} {NA FA : Option Addr} {nn nc fn fc : Nat}
    (hbW : Below w.heap.size w W) (hB : Blk W tb 26 #[.slice NA nn nc, .slice FA fn fc]) (hC : W.cell? ⟨c5, 0, none⟩ = some (.map (some mb))) (hK : KMk W mb cnt (fun k => (g k : Int)) ks)
    (hg : ∀ k, g k ≤ 4611686018427387904) (hfs : Sl w w.heap.size 2 FA fn (files.flatMap FC.list)) (hfl : files.length = fn) (hlen : ∀ f ∈ files, f.n ≤ 8192) (hS : SmallSum (weightL ks g files)) (hcount : ks.length + fn ≤ 1024)
    (hQ : ∀ (a' : Act) (W' : World), a'.defers = ds → (results Try.f17 a'.tmps).run Try.prog W' = .ok (.tuple #[.complex .f64 (N (s1 (weightL ks g files))) (N (s2 (weightL ks g files))), .int .i64 0]) W' → Below W.heap.size W W' → Q .ret a' W') :
    (tailOf 5 (Try.f17.body.getD .skip)).wp Try.prog Q ⟨List.toArray (u0 :: .pointer (some ⟨tb, 0, none⟩) :: .complex .f64 0 0 :: .int .i64 0 :: u4 :: .pointer (some ⟨c5, 0, none⟩) :: .slice none 0 0 :: u7 :: u8 :: u9 :: u10 :: u11 :: u12 :: u13 :: u14 :: u15 :: u16 :: u17 :: u18 :: u19 :: u20 :: u21 :: u22 :: u23 :: u24 :: u25 :: u26 :: u27 :: u28 :: u29 :: u30 :: u31 :: u32 :: u33 :: u34 :: u35 :: u36 :: u37 :: u38 :: u39 :: u40 :: u41 :: u42 :: u43 :: u44 :: u45 :: u46 :: u47 :: u48 :: u49 :: u50 :: u51 :: u52 :: u53 :: u54 :: u55 :: u56 :: u57 :: u58 :: u59 :: u60 :: u61 :: u62 :: u63 :: u64 :: u65 :: []), ds⟩ W := by
  replace hQ := Lib.hid hQ
  have Hg := Lib.hid hg; clear hg
  have Hfs := Lib.hid hfs; clear hfs
  have Hfl := Lib.hid hfl; clear hfl
  have Hlen := Lib.hid hlen; clear hlen
  have HS := Lib.hid hS; clear hS
  have tbl := hB.lt
  have mbl := hK.lt
  have c5l := cell_lt hC
  conv => arg 2; whnf
  go_upto_region 12 with (first | (refine wpList_kr_range rfl _ rfl rfl hK ?_; intro w1 cnt1 hKR hg1 hsz1; simp only [Act.put, List.setIfInBounds_toArray, List.set_cons_zero, List.set_cons_succ]))
  rename_i K1 hK1
  have hbl : Below W.heap.size W w1 := below_grown hg1 (Nat.le_refl _) (fun g e => by cases e)
  go_loopw [6] (fun l wr => DirsAt w1.heap.size W mb W.heap.size cnt g ks l wr) (fun _ wr => wr.rangeLeft mb W.heap.size)
  case atStart => exact ⟨none, 0, 0, [], ks, cnt1, rfl, World.ownsRow_nil _ _ _ _, rfl, hKR, List.Perm.refl _, hbl⟩
  case round =>
    obtain ⟨A, n, c, dn, todo, cnt', rfl, ho, hn, hKR', hperm, hb⟩ := hrel
    have hws := hb.size
    cases todo with
    | nil =>
      rw [List.append_nil] at hperm
      have hnk : ks.length = n := by rw [hn, hperm.length_eq]
      have hc' := hcount
      rw [hnk] at hc'
      have hSt : SmallSum (weightL dn g files) := HS.out.perm ((hperm.symm.map (dirT g)).append_right _)
      have e1 : s1 (weightL dn g files) = s1 (weightL ks g files) := s1_perm ((hperm.map (dirT g)).append_right _)
      have e2 : s2 (weightL dn g files) = s2 (weightL ks g files) := s2_perm ((hperm.map (dirT g)).append_right _)
      have hbase : w1.heap.size ≤ wr.heap.size := by have := hKR'.lt; omega
      have d0 := (hB.below hb tbl).cell 0
      have d1 := (hB.below hb tbl).cell 1
      have hWb : W.heap.size ≤ w1.heap.size := by omega
      have hwb : w.heap.size ≤ w1.heap.size := by have := hbW.size; omega
      obtain ⟨D, hD⟩ : ∃ D, D = dn.map (dirT g) := ⟨_, rfl⟩
      have hL : weightL dn g files = D ++ files.map fileT := by rw [hD]; rfl
      rw [hL] at hSt e1 e2
      replace e1 := Lib.hid e1
      replace e2 := Lib.hid e2
      have hDn : D.length = n := by rw [hD, List.length_map, hn]
      rw [← hD] at ho
      replace hDn := Lib.hid hDn
      replace hSt := Lib.hid hSt
      go_upto_region 16 with (first | (refine wpList_kr_end rfl _ rfl rfl hKR' ?_; simp only [Act.put, List.setIfInBounds_toArray, List.set_cons_zero, List.set_cons_succ]))
      clear d0 d1 hKR' hperm hKR hK hnk hcount hL hD hn
      obtain ⟨base, hbe⟩ : ∃ base, w1.heap.size = base := ⟨_, rfl⟩
      rw [hbe] at ho hbase hwb hWb
      have hm := hc'
      go_loopw [6, 50] (fun l i wr2 => ∃ j : Nat, j ≤ fn ∧ i = .int .i64 j ∧ base ≤ wr2.heap.size ∧ FilesAt base W D files j l wr2) (fun _ i _ => fn - (intOf i).toNat)
      case atStart => exact ⟨0, Nat.zero_le _, rfl, hbase, A, c, by rw [hDn.out]; rfl, by rw [hDn.out]; simpa using ho, hb⟩
      case round =>
        obtain ⟨j, hj, rfl, hbase2, A2, c2, rfl, ho2, hb2⟩ := hrel
        rw [hDn.out] at ho2 ⊢
        by_cases hlt : j < fn
        · have hji : (j : Int) < fn := by omega
          obtain ⟨yb, yo, y, rfl, hyb, hy, hc⟩ := (Hfs.out.keep (Nat.le_refl _) (hbW.trans (hb2.mono hbW.size)).block).get FC.len Hfl.out hlt
          have c0 := hc 0 _ rfl
          have c1 := hc 1 _ rfl
          simp only [Nat.add_zero] at c0 c1
          clear hc
          have hyn : y.n ≤ 8192 := Hlen.out y (List.mem_of_getElem? hy)
          have ht := take_snoc' hy
          replace ht := Lib.hid ht
          clear hy
          go_wp2_with (first | (go_at_call 51; refine (file_any y.n (by omega) _).mono ?_; rintro e w3 ⟨rfl, rfl⟩) | (at_builtin; go_must (refine wpList_append_one rfl _ _ _ rfl Try.tollT rfl (ho2.alloc _) #[.complex .f64 (N (fileW y.n)) (N 1)] rfl (by simp) rfl (by intro u hu; rw [List.mem_singleton.1 hu]; rfl) (by unfold maxLen; omega) (by omega) (by simp; omega) ?_); intro g1 c1 w4 ho4 hg4 hat4; simp only [Act.put, List.setIfInBounds_toArray, List.set_cons_zero, List.set_cons_succ]))
          go_roundw
          case rel => exact ⟨j + 1, by omega, by go_num, by have := hg4.size; simp at this; omega, some ⟨g1, 0, none⟩, c1, by rw [hDn.out]; rfl, by rw [hDn.out, ht.out]; simpa [fileT, tollC, Nat.add_assoc] using ho4, (hb2.alloc hb2.size _).trans (below_grown hg4 (by have := hb2.size; simp; omega) (fun g e => by have := own_blk' ho2 g e; omega))⟩
          case measure => simp [intOf]; omega
        · obtain rfl : j = fn := by omega
          rw [List.take_of_length_le (by rw [Hfl.out]; exact Nat.le_refl _)] at ho2
          have hSl := Lib.hid (Sl.of_own ho2)
          have hlen' := Lib.hid (show (D ++ files.map fileT).length = n + j by rw [List.length_append, List.length_map, hDn.out, Hfl.out])
          go_wp2_with (go_at_call 52; refine (sum_any (D ++ files.map fileT) hSt.out _ _ _ _ hSl.out hlen'.out hm).mono ?_; rintro e w3 ⟨rfl, hb3⟩)
          exact hQ.out _ _ rfl ((results_tmp2 rfl _ _ _).trans (by rw [← e1.out, ← e2.out]; rfl)) (hb2.trans (hb3.mono hb2.size))
    | cons k0 todo0 =>
      have hnb : n + 1 ≤ 1024 := by have := hperm.length_eq; simp at this; omega
      have hrb : W.heap.size < w1.heap.size := by omega
      have hrl := hKR'.lt
      have hmb : mb < w1.heap.size := by omega
      replace hperm := Lib.hid hperm
      replace hn := Lib.hid hn
      go_wp2_with (first | (refine wpList_kr_more rfl _ rfl rfl hKR' (by simp) ?_; intro s w2 cnt2 hmem hKR2 hlt2 hg2 hsz2 hen; have ho2 := own_grown' ho hg2 hrb; simp only [Act.put, List.setIfInBounds_toArray, List.set_cons_zero, List.set_cons_succ]) | (go_at_call 50; refine (dir_any (g s.data.toList) (Hg.out _) _).mono ?_; rintro e w3 ⟨rfl, rfl⟩) | (at_builtin; go_must (refine wpList_append_one rfl _ _ _ rfl Try.tollT rfl ho2 #[.complex .f64 (N (dirW (g s.data.toList))) (N 1)] (N := wr.heap.size) rfl hsz2.symm rfl (by intro u hu; rw [List.mem_singleton.1 hu]; rfl) (by unfold maxLen; omega) (by omega) (by have := hg2.size; omega) ?_); intro g1 c1 w4 ho4 hg4 hat4; simp only [Act.put, List.setIfInBounds_toArray, List.set_cons_zero, List.set_cons_succ]))
      have hp2 : ((dn ++ [s.data.toList]) ++ (k0 :: todo0).erase s.data.toList).Perm ks := by
        rw [List.append_assoc]
        exact ((List.perm_cons_erase hmem).symm.append_left dn).trans hperm.out
      have hKR4 := hKR2.kept hg4 (ne_blk ho2 hmb) (ne_blk ho2 hrb)
      go_roundw
      case rel => exact ⟨some ⟨g1, 0, none⟩, n + 1, c1, dn ++ [s.data.toList], _, cnt2, rfl, by simpa [dirT, tollC] using ho4, by rw [hn.out]; simp, hKR4, hp2, (hb.trans (below_grown hg2 hws (fun g e => by injection e with e; omega))).trans (below_grown hg4 (by have := hg2.size; omega) (fun g e => by have := own_blk' ho2 g e; omega))⟩
      case measure => rw [hKR4.left_eq, hKR'.left_eq]; exact hlt2
end Go.Proofs.Ytdjlchbgdehccaa
