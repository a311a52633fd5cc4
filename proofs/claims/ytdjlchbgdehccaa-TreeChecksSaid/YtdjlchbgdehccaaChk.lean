/- What tree.Weight sums up is what the document's Weight sums up. tree.Print and shuntref6.Print: one fingerprint. What the law TreeChecks needs: tree.Weight in one contract, a lent tree is in all things as its own, two digests compared. -/
import Derived.Test.YtdjlchbgdehccaaIs
import Derived.Test.YtdjlchbgdehccaaRWeight
import Derived.Test.YtdjlchbgdehccaaWgh
import Derived.Test.YtdjlchbgdehccaaGood
import Derived.Test.YtdjlchbgdehccaaShaD
import Derived.Test.YtdjlchbgdehccaaBytesA
import Derived.Test.YtdjlchbgdehccaaRBytes
import Derived.Test.YtdjlchbgdehccaaWbad
import Derived.Test.YtdjlchbgdehccaaCheck
import Derived.Test.YtdjlchbgdehccaaStays
import Derived.ChangeKeysEq

namespace Go.Proofs.Ytdjlchbgdehccaa
open Go.RowKit

theorem addKey_mem (ks : List (List UInt8)) (k x : List UInt8) : x ∈ addKey ks k ↔ x ∈ ks ∨ x = k := by
  unfold addKey
  split
  · constructor
    · exact .inl
    · rintro (h | rfl) <;> assumption
  · simp
theorem addKey_nodup {ks : List (List UInt8)} (h : ks.Nodup) (k : List UInt8) : (addKey ks k).Nodup := by
  unfold addKey
  split
  · exact h
  · rename_i hk
    rw [List.nodup_append]
    refine ⟨h, by simp, fun a ha b hb e => ?_⟩
    rw [List.mem_singleton] at hb
    subst hb; subst e
    exact hk ha
theorem keysStep_mem (ks : List (List UInt8)) (y : Node) (x : List UInt8) : x ∈ keysStep ks y ↔ x ∈ ks ∨ x = parK y ∨ (y.file = -1 ∧ x = y.path.data.toList) := by
  unfold keysStep
  split
  · rename_i h
    rw [addKey_mem, addKey_mem]
    constructor
    · rintro ((h1 | h1) | h1)
      · exact .inl h1
      · exact .inr (.inl h1)
      · exact .inr (.inr ⟨h, h1⟩)
    · rintro (h1 | h1 | ⟨_, h1⟩)
      · exact .inl (.inl h1)
      · exact .inl (.inr h1)
      · exact .inr h1
  · rename_i h
    rw [addKey_mem]
    constructor
    · rintro (h1 | h1)
      · exact .inl h1
      · exact .inr (.inl h1)
    · rintro (h1 | h1 | ⟨h2, _⟩)
      · exact .inl h1
      · exact .inr h1
      · exact absurd h2 h
theorem keysStep_nodup {ks : List (List UInt8)} (h : ks.Nodup) (y : Node) : (keysStep ks y).Nodup := by
  unfold keysStep
  split
  · exact addKey_nodup (addKey_nodup h _) _
  · exact addKey_nodup h _
theorem keys_fold_mem (l : List Node) : ∀ (ks : List (List UInt8)) (x : List UInt8), x ∈ l.foldl keysStep ks ↔ x ∈ ks ∨ ∃ y ∈ l, x = parK y ∨ (y.file = -1 ∧ x = y.path.data.toList) := by
  induction l with
  | nil => intro ks x; simp
  | cons z l ih =>
    intro ks x
    rw [List.foldl_cons, ih, keysStep_mem]
    constructor
    · rintro ((h | h) | ⟨y, hy, h⟩)
      · exact .inl h
      · exact .inr ⟨z, List.mem_cons_self, h⟩
      · exact .inr ⟨y, List.mem_cons_of_mem _ hy, h⟩
    · rintro (h | ⟨y, hy, h⟩)
      · exact .inl (.inl h)
      · rcases List.mem_cons.1 hy with rfl | hy
        · exact .inl (.inr h)
        · exact .inr ⟨y, hy, h⟩
theorem keys_fold_nodup (l : List Node) : ∀ {ks : List (List UInt8)}, ks.Nodup → (l.foldl keysStep ks).Nodup := by
  induction l with
  | nil => intro ks h; exact h
  | cons z l ih => intro ks h; exact ih (keysStep_nodup h z)
/-- The directories' paths. -/
def dirsL (l : List Node) : List (List UInt8) := (l.filter fun x => x.file == -1).map pathL
theorem keys_perm {t : TV} (G : Good t) (hne : ∀ x ∈ t.nodes, pathL x ≠ []) : (keysOf t.nodes).Perm ([] :: dirsL t.nodes) := by
  have hnd : (dirsL t.nodes).Nodup := by
    unfold dirsL
    have hr : (t.nodes.filter fun x => x.file == -1).Pairwise fun x y => pathL x < pathL y := List.Pairwise.filter _ G.rises
    rw [List.nodup_iff_pairwise_ne, List.pairwise_map]
    exact hr.imp fun h e => by rw [e] at h; exact absurd h (List.lt_irrefl _)
  refine (List.perm_ext_iff_of_nodup (keys_fold_nodup _ (by simp)) ?_).2 fun x => ?_
  · rw [List.nodup_cons]
    refine ⟨fun h => ?_, hnd⟩
    obtain ⟨y, hy, e⟩ := List.mem_map.1 h
    exact hne y (List.mem_filter.1 hy).1 e
  · refine (keys_fold_mem _ _ _).trans (Iff.trans ?_ List.mem_cons.symm)
    constructor
    · rintro (h | ⟨y, hy, h | ⟨h1, h2⟩⟩)
      · simp at h; exact .inl h
      · rcases G.dir y hy with h0 | ⟨z, hz, h1, h2⟩
        · exact .inl (h.trans h0)
        · refine .inr (List.mem_map.2 ⟨z, List.mem_filter.2 ⟨hz, by simp [h2]⟩, ?_⟩)
          rw [h1]; exact h.symm
      · exact .inr (List.mem_map.2 ⟨y, List.mem_filter.2 ⟨hy, by simp [h1]⟩, h2.symm⟩)
    · rintro (h | h)
      · exact .inl (by simp [h])
      · obtain ⟨y, hy, e⟩ := List.mem_map.1 h
        have := List.mem_filter.1 hy
        exact .inr ⟨y, this.1, .inr ⟨by simpa using this.2, e.symm⟩⟩
theorem kidsN_kidN (l : List Node) (p : ByteArray) : kidsN l p.data.toList = kidN l p := by
  unfold kidsN kidN
  rw [picks_count, List.count, List.countP_map]
  refine List.countP_congr fun x _ => ?_
  rw [kidsF_iff]
  simp [parK, Function.comp]
theorem dirs_sum (all l : List Node) : (((l.filter fun x => x.file == -1).map pathL).map (dirT (kidsN all))).map Prod.fst = (l.filter fun x => x.file == -1).map fun x => dW (kidN all x.path) := by
  rw [List.map_map, List.map_map]
  refine List.map_congr_left fun x _ => ?_
  show dirW (kidsN all x.path.data.toList) = dW (kidN all x.path)
  rw [kidsN_kidN]
  rfl
theorem filter_sum (g : Node → Nat) : ∀ l : List Node, ((l.filter fun x => x.file == -1).map g).sum = (l.map fun x => if x.file = -1 then g x else 0).sum
  | [] => rfl
  | x :: l => by
    by_cases h : x.file = -1
    · rw [List.filter_cons_of_pos (by simp [h])]
      simp [h, filter_sum g l]
    · rw [List.filter_cons_of_neg (by simp [h])]
      simp [h, filter_sum g l]
theorem ones_sum (f : Node → List UInt8) (g : List UInt8 → Nat) (l : List Node) : ((l.map f).map (dirT g)).map Prod.snd = l.map fun _ => 1 := by
  rw [List.map_map, List.map_map]
  rfl
theorem weight_eq {t : TV} (h : looseE t = 0) (hne : ∀ x ∈ t.nodes, pathL x ≠ []) : s1 (weightL (keysOf t.nodes) (kidsN t.nodes) t.files) = wgtB t ∧ s2 (weightL (keysOf t.nodes) (kidsN t.nodes) t.files) = wgtI t := by
  have G := good_of_loose h
  have hp := keys_perm G hne
  have hq : (weightL (keysOf t.nodes) (kidsN t.nodes) t.files).Perm (weightL ([] :: dirsL t.nodes) (kidsN t.nodes) t.files) := (hp.map _).append_right _
  have h0 : dirW (kidsN t.nodes []) = dW (kidN t.nodes ByteArray.empty) := by rw [← kidsN_kidN]; rfl
  have hf : ∀ fs : List FC, (fs.map fileT).map Prod.fst = fs.map fun f => fW f.n := fun fs => by rw [List.map_map]; rfl
  have hg : ∀ fs : List FC, ((fs.map fileT).map Prod.snd).sum = fs.length := fun fs => by
    induction fs with
    | nil => rfl
    | cons x fs ih => simp only [List.map_cons, List.sum_cons, ih, List.length_cons]; show 1 + fs.length = fs.length + 1; omega
  constructor
  · rw [s1_perm hq]
    unfold s1 weightL wgtB dirsB filesB
    rw [List.map_cons, List.cons_append, List.map_cons, List.sum_cons, List.map_append, List.sum_append, hf]
    unfold dirsL
    rw [dirs_sum, filter_sum]
    show dirW (kidsN t.nodes []) + _ = _
    rw [h0]
    omega
  · rw [s2_perm hq]
    unfold s2 weightL wgtI dirsI
    rw [List.map_cons, List.cons_append, List.map_cons, List.sum_cons, List.map_append, List.sum_append, hg]
    unfold dirsL
    rw [ones_sum, filter_sum]
    show 1 + _ = _
    omega
end Go.Proofs.Ytdjlchbgdehccaa

namespace Go.Proofs.Ytdjlchbgdehccaa
open Go.RowKit

theorem small_loose {t : TV} (h : looseE t = 0) (hn : t.nodes.length ≤ 256) (hf : t.files.length ≤ 256) : SmallSum (weightL (keysOf t.nodes) (kidsN t.nodes) t.files) := by
  have G := good_of_loose h
  obtain ⟨e1, e2⟩ := weight_eq h fun x hx => valid_ne (G.valid x hx)
  refine ⟨fun x hx => ?_, ?_, ?_⟩
  · unfold weightL at hx
    rcases List.mem_append.1 hx with hx | hx
    · obtain ⟨k, _, rfl⟩ := List.mem_map.1 hx
      have h1 := kidsN_le t.nodes k
      have h2 : dirW (kidsN t.nodes k) ≤ 256 := by unfold dirW; omega
      exact ⟨by show dirW _ < _; omega, by show 1 < _; omega⟩
    · obtain ⟨f, hf, rfl⟩ := List.mem_map.1 hx
      have h1 := G.small f hf
      have h2 : fileW f.n ≤ 8193 := by unfold fileW; split <;> omega
      exact ⟨by show fileW _ < _; omega, by show 1 < _; omega⟩
  · rw [e1]
    unfold wgtB
    have h1 := dW_le (n := 256) (Nat.le_trans (kidN_le t.nodes ByteArray.empty) hn) (by omega)
    have h2 := (dirsB_le t.nodes (by omega) t.nodes).1
    have h3 := filesB_le t.files (fun x hx => Nat.le_trans (G.small x hx) (by omega))
    have h4 := Nat.mul_le_mul_right 1000 hn
    have h5 := Nat.mul_le_mul_right 100001 hf
    omega
  · rw [e2]
    unfold wgtI
    have h2 := (dirsB_le t.nodes (by omega) t.nodes).2
    omega
theorem wgt_pos (t : TV) : 0 < wgtB t ∧ 0 < wgtI t := by
  unfold wgtB wgtI dW
  omega
theorem wgt_small {t : TV} (h : looseE t = 0) (hn : t.nodes.length ≤ 256) (hf : t.files.length ≤ 256) : wgtB t < 1000000000 ∧ wgtI t < 1000000000 := by
  have G := good_of_loose h
  have h1 := dW_le (n := 256) (Nat.le_trans (kidN_le t.nodes ByteArray.empty) hn) (by omega)
  have h2 := dirsB_le t.nodes (by omega) t.nodes
  have h3 := filesB_le t.files (fun x hx => Nat.le_trans (G.small x hx) (by omega))
  have h4 := Nat.mul_le_mul_right 1000 hn
  have h5 := Nat.mul_le_mul_right 100001 hf
  unfold wgtB wgtI
  omega
theorem filesI_le : ∀ (fs : List FC) (ds : List ByteArray), (∀ d ∈ ds, d.size ≤ 8192) → (filesI fs ds).length ≤ 8196 * fs.length
  | [], _, _ => by simp [filesI]
  | _ :: _, [], _ => by simp [filesI]
  | f :: fs, d :: ds, h => by
    have h1 := filesI_le fs ds fun x hx => h x (List.mem_cons_of_mem _ hx)
    have h2 := h d List.mem_cons_self
    rw [filesI, List.length_append, fileI_len, List.length_cons]
    omega
theorem nodesI_le : ∀ l : List Node, (∀ x ∈ l, validL (pathL x) = true) → (l.flatMap nodeI).length ≤ 94 * l.length
  | [], _ => by simp
  | x :: l, h => by
    have h1 := nodesI_le l fun y hy => h y (List.mem_cons_of_mem _ hy)
    have h2 := valid_len (h x List.mem_cons_self)
    have h3 : x.path.size ≤ 89 := by rwa [show (pathL x).length = x.path.size from dlen _] at h2
    rw [List.flatMap_cons, List.length_append, nodeI_len, List.length_cons]
    omega
theorem treeI_small {w : World} {t : TV} {ds : List ByteArray} (h : TreeD w t ds) (hl : looseE t = 0) : (treeI t ds).length ≤ 10000000 := by
  have G := good_of_loose hl
  have hn : t.nodes.length ≤ 256 := by rw [h.tree.nl]; exact G.nn
  have hf : t.files.length ≤ 256 := by rw [h.tree.fl]; exact G.fn
  have h1 := nodesI_le t.nodes G.valid
  have h2 := filesI_le t.files ds fun d hd => by
    obtain ⟨k, hk, e⟩ := List.getElem_of_mem hd
    have hk2 : k < t.files.length := by rw [← h.dat.len]; exact hk
    have h3 := (h.dat.at_ k t.files[k] d (List.getElem?_eq_getElem hk2) (by rw [List.getElem?_eq_getElem hk, e])).1
    have := G.small t.files[k] (List.getElem_mem hk2)
    omega
  unfold treeI
  simp only [List.length_append]
  have h4 : ∀ k, (twoI k).length = 2 := fun k => rfl
  rw [h4, h4]
  omega
/-- A tree's fingerprint; noughts, where it is not loose. -/
def prF (t : TV) (ds : List ByteArray) : Nat → Int := if looseE t = 0 then outF (shaF (treeI t ds)) else fun _ => 0
def PrintRes (t : TV) (ds : List ByteArray) (w : World) (e : Ending) (w' : World) : Prop := e = .returned (.tuple #[.agg (arrB 32 (prF t ds)), .int .i64 (looseE t)]) ∧ Below w.heap.size w w'
set_option maxRecDepth 100000 in
set_option maxHeartbeats 4000000 in
theorem print_any (t : TV) (ds : List ByteArray) (w : World) (h : TreeD w t ds) : Calls Try.prog 34 #[t.val] w (PrintRes t ds w) := by
  have hB1 : ∀ W, TreeD W t ds → Calls Try.prog 32 #[t.val] W (BytesAny t ds W) := fun W hW => bytes_any t ds W hW
  have hsm : looseE t = 0 → (treeI t ds).length ≤ 10000000 := fun hl => treeI_small h hl
  have hpos := tree_pos t ds
  unfold PrintRes prF
  unfold BytesAny at hB1
  obtain ⟨E, hE⟩ : ∃ E, looseE t = E := ⟨_, rfl⟩
  obtain ⟨L, hL⟩ : ∃ L, treeI t ds = L := ⟨_, rfl⟩
  rw [hE] at hB1 hsm ⊢
  rw [hL] at hB1 hsm hpos ⊢
  obtain ⟨D, hD⟩ : ∃ D, (if E = 0 then outF (shaF L) else fun _ => 0) = D := ⟨_, rfl⟩
  rw [hD]
  have HT := Lib.hid h; have HSm := Lib.hid hsm; have HB1 := Lib.hid hB1; have HD := Lib.hid hD
  clear hE hL h hsm hB1 hD
  obtain ⟨nodes, files, NA, nn, nc, FA, fn, fc⟩ := t
  unfold TV.val at HB1 ⊢
  have hb := ((Below.refl w.heap.size w).alloc (Nat.le_refl _) (.cells #[.slice NA nn nc, .slice FA fn fc] 26)).alloc (by simp) (.cells (arrB 32 fun _ => 0) 55)
  have hR := Blk.new (w.alloc (.cells #[.slice NA nn nc, .slice FA fn fc] 26)) 55 (arrB 32 fun _ => 0)
  have hT := (Blk.new w 26 #[.slice NA nn nc, .slice FA fn fc]).alloc (.cells (arrB 32 fun _ => 0) 55)
  rw [World.size_alloc] at hR
  go_enter Try.func34, Try.ntmps34
  go_upto_region 1 with (fail)
  rw [← arrB_zero]
  obtain ⟨W0, hW0⟩ : ∃ W, (w.alloc (.cells #[.slice NA nn nc, .slice FA fn fc] 26)).alloc (.cells (arrB 32 fun _ => 0) 55) = W := ⟨_, rfl⟩
  rw [hW0] at hb hR hT ⊢
  clear hW0
  have c0 := hT.cell 0; have c1 := hT.cell 1
  have hRl := hR.lt
  have HR := Lib.hid hR
  clear hR hT
  by_cases h0 : E = 0
  · subst h0
    rw [if_pos rfl] at HD
    go_upto_region 2 with (go_at_call 32; refine (HB1.out _ (HT.out.keep hb)).mono ?_; rintro e w1 ⟨A, n, c, xs, rfl, hn, ho, hx, hy, hb1⟩)
    obtain rfl := hx trivial
    have HS := Lib.hid (Sl.of_own ho); have Hn := Lib.hid hn
    have hn0 : 0 < n := by rw [← hn]; exact hpos
    have hn9 : n ≤ 1000000000 := by have := HSm.out trivial; omega
    have HR1 := Lib.hid (HR.out.below hb1 hRl)
    replace hb := hb.trans (hb1.mono hb.size)
    have hz := hb.size
    clear c0 c1 ho hn hx hy hb1 HR HB1
    go_wp2_with (first | (go_at_call 59; refine (sha_any xs A n c w1 HS.out Hn.out hn0 hn9).mono ?_; rintro e w3 ⟨rfl, hb3⟩; have hR3 := HR1.out.below hb3 HR1.out.lt) | (refine wpList_store_blk rfl 55 (.tmp 2) (.tmp 16) rfl hR3 (arrB 32 (outF (shaF xs))) rfl rfl (by kernel_rfl) (by kernel_rfl) (by kernel_rfl) ?_; intro w9 hX9 hg9 hs9))
    exact ret_cell_t rfl rfl (load_blk hX9 Try.underlying55 rfl (by kernel_rfl)) rfl ⟨by rw [← HD.out]; rfl, (hb.trans (hb3.mono hz)).trans (below_grown hg9 (Nat.le_trans hz hb3.size) (fun g e => by injection e with e; omega))⟩
  · have hE : (E == 0) = false := by simpa using h0
    have hE2 : (E != 0) = true := by simpa using h0
    have HZ := Lib.hid (show (fun _ => 0 : Nat → Int) = D by rw [← HD.out, if_neg h0])
    clear h0
    go_upto_region 2 with (go_at_call 32; refine (HB1.out _ (HT.out.keep hb)).mono ?_; rintro e w1 ⟨A, n, c, xs, rfl, hn, ho, hx, hy, hb1⟩)
    have hR1 := HR.out.below hb1 hRl
    replace hb := hb.trans (hb1.mono hb.size)
    have hz := hb.size
    clear c0 c1 ho hn hx hy hb1 HR HB1
    go_wp2_with (refine wpList_store_blk rfl 55 (.tmp 2) (.tmp 13) rfl hR1 (arrB 32 fun _ => 0) rfl (by rw [arrB_zero]; rfl) (by kernel_rfl) (by kernel_rfl) (by kernel_rfl) ?_; intro w9 hX9 hg9 hs9)
    exact ret_cell_t rfl rfl (load_blk hX9 Try.underlying55 rfl (by kernel_rfl)) rfl ⟨by rw [← HZ.out]; rfl, hb.trans (below_grown hg9 hz (fun g e => by injection e with e; omega))⟩
def RPrintRes (t : TV) (ds : List ByteArray) (w : World) (e : Ending) (w' : World) : Prop := e = .returned (.agg (arrB 32 (outF (shaF (treeI t ds))))) ∧ Below w.heap.size w w'
set_option maxRecDepth 100000 in
set_option maxHeartbeats 4000000 in
theorem rprint_any (t : TV) (ds : List ByteArray) (w : World) (h : TreeD w t ds) (hl : looseE t = 0) : Calls Try.prog 40 #[t.val] w (RPrintRes t ds w) := by
  have hB1 : ∀ W, TreeD W t ds → Calls Try.prog 39 #[t.val] W (RBytesRes t ds W) := fun W hW => rbytes_any t ds W hW hl
  have hsm : (treeI t ds).length ≤ 10000000 := treeI_small h hl
  unfold RPrintRes
  unfold RBytesRes at hB1
  obtain ⟨L, hL⟩ : ∃ L, treeI t ds = L := ⟨_, rfl⟩
  rw [hL] at hB1 hsm ⊢
  have HT := Lib.hid h; have HSm := Lib.hid hsm; have HB1 := Lib.hid hB1
  clear hL h hl hsm hB1
  obtain ⟨nodes, files, NA, nn, nc, FA, fn, fc⟩ := t
  unfold TV.val at HB1 ⊢
  have hb := ((Below.refl w.heap.size w).alloc (Nat.le_refl _) (.cells #[.slice NA nn nc, .slice FA fn fc] 26)).alloc (by simp) (.cells (arrB 32 fun _ => 0) 55)
  have hR := Blk.new (w.alloc (.cells #[.slice NA nn nc, .slice FA fn fc] 26)) 55 (arrB 32 fun _ => 0)
  have hT := (Blk.new w 26 #[.slice NA nn nc, .slice FA fn fc]).alloc (.cells (arrB 32 fun _ => 0) 55)
  rw [World.size_alloc] at hR
  go_enter Try.func40, Try.ntmps40
  go_upto_region 1 with (fail)
  rw [← arrB_zero]
  obtain ⟨W0, hW0⟩ : ∃ W, (w.alloc (.cells #[.slice NA nn nc, .slice FA fn fc] 26)).alloc (.cells (arrB 32 fun _ => 0) 55) = W := ⟨_, rfl⟩
  rw [hW0] at hb hR hT ⊢
  clear hW0
  have c0 := hT.cell 0; have c1 := hT.cell 1
  have hRl := hR.lt
  have HR := Lib.hid hR
  have hz := hb.size
  clear hR hT
  go_wp2_with (first | (go_at_call 39; refine (HB1.out _ (HT.out.keep hb)).mono ?_; rintro e w1 ⟨A, n, c, rfl, hn, ho, hb1⟩; have HS := Lib.hid (Sl.of_own ho); have Hn := Lib.hid hn; have hn9 : n ≤ 1000000000 := (by have := HSm.out; omega); have HR1 := Lib.hid (HR.out.below hb1 hRl); clear ho hn c0 c1) | (go_at_call 66; refine (rsha_any L A n c w1 HS.out Hn.out hn9).mono ?_; rintro e w3 ⟨rfl, hb3⟩; have hR3 := HR1.out.below hb3 HR1.out.lt) | (refine wpList_store_blk rfl 55 (.tmp 2) (.tmp 5) rfl hR3 (arrB 32 (outF (shaF L))) rfl rfl (by kernel_rfl) (by kernel_rfl) (by kernel_rfl) ?_; intro w9 hX9 hg9 hs9))
  have hz1 := hb1.size; have hz3 := hb3.size
  refine bodyPost_ret (results_cell_row rfl _ _ _ _ _ _ _ (by rfl) hX9 Try.underlying55 rfl (by kernel_rfl)) rfl ⟨rfl, ?_⟩
  exact ((hb.trans (hb1.mono hz)).trans (hb3.mono (Nat.le_trans hz hz1))).trans (below_grown hg9 (Nat.le_trans hz (Nat.le_trans hz1 hz3)) (fun g e => by injection e with e; omega))
end Go.Proofs.Ytdjlchbgdehccaa

namespace Go.Proofs.Ytdjlchbgdehccaa
open Go.RowKit

def wB (t : TV) : Nat := if looseE t = 0 then N (wgtB t) else 0
def wI (t : TV) : Nat := if looseE t = 0 then N (wgtI t) else 0
def WgtRes (t : TV) (w : World) (e : Ending) (w' : World) : Prop := e = .returned (.tuple #[.complex .f64 (wB t) (wI t), .int .i64 (looseE t)]) ∧ Below w.heap.size w w'
theorem weight_any (t : TV) (w : World) (h : TreeAt w t) : Calls Try.prog 17 #[t.val] w (WgtRes t w) := by
  by_cases hl : looseE t = 0
  · have hn : t.nodes.length ≤ 256 := by rw [h.nl]; exact (loose0 hl).1
    have hf : t.files.length ≤ 256 := by rw [h.fl]; exact (loose0 hl).2.1
    obtain ⟨e1, e2⟩ := weight_eq hl fun x hx => valid_ne ((good_of_loose hl).valid x hx)
    refine (weight_ok t w h hl (small_loose hl hn hf)).mono fun e w' hr => ?_
    obtain ⟨he, hb⟩ := hr
    exact ⟨by rw [he, e1, e2, wB, wI, if_pos hl, if_pos hl, hl], hb⟩
  · refine (weight_bad t w h hl).mono fun e w' hr => ?_
    obtain ⟨he, hb⟩ := hr
    exact ⟨by rw [he, wB, wI, if_neg hl, if_neg hl], hb⟩
theorem formB_same {u v : TV} (h1 : u.nodes = v.nodes) (h2 : u.fn = v.fn) (h3 : u.files.map (·.mode) = v.files.map (·.mode)) : formB u = formB v := by
  have e : ∀ fs : List FC, (fs.all fun x => okMode x.mode) = (fs.map (·.mode)).all okMode := fun fs => by rw [List.all_map]; rfl
  unfold formB
  rw [h1, h2, e, e, h3]
theorem filesI_same : ∀ (fs gs : List FC) (ds : List ByteArray), fs.map (·.mode) = gs.map (·.mode) → filesI fs ds = filesI gs ds
  | [], [], _, _ => rfl
  | [], _ :: _, _, h => by simp at h
  | _ :: _, [], _, h => by simp at h
  | _ :: _, _ :: _, [], _ => rfl
  | f :: fs, g :: gs, d :: ds, h => by
    simp only [List.map_cons, List.cons.injEq] at h
    rw [filesI, filesI, h.1, filesI_same fs gs ds h.2]
theorem lent_all {u t : TV} {ds : List ByteArray} {w w' : World} (hu : TreeD w u ds) (ht : TreeD w' t ds) (hx : exactB u t ds ds = true) : looseE u = looseE t ∧ checkE u = checkE t ∧ wB u = wB t ∧ wI u = wI t ∧ treeI u ds = treeI t ds := by
  obtain ⟨p1, p2, _⟩ := exact_parts hx
  have hnn : u.nn = t.nn := by rw [← hu.tree.nl, ← ht.tree.nl, p1]
  have hfl : u.files.length = t.files.length := by have := congrArg List.length p2; simpa using this
  have hfn : u.fn = t.fn := by rw [← hu.tree.fl, ← ht.tree.fl, hfl]
  have hsz : ∀ {W : World} {x : TV}, TreeD W x ds → x.files.map (·.n) = ds.map (·.size) := fun {W x} hx => by
    apply List.ext_getElem?
    intro k
    rw [List.getElem?_map, List.getElem?_map]
    rcases hk : x.files[k]? with _ | f
    · have hkl : ds[k]? = none := by rw [List.getElem?_eq_none_iff] at hk ⊢; rw [hx.dat.len]; exact hk
      rw [hkl]; rfl
    · obtain ⟨d, hd, hdn, _⟩ := hx.dat.get hk
      rw [hd]; exact congrArg some hdn.symm
  have hn : u.files.map (·.n) = t.files.map (·.n) := by rw [hsz hu, hsz ht]
  have hlong : anyLong u.files = anyLong t.files := by
    have e : ∀ fs : List FC, anyLong fs = (fs.map (·.n)).any (fun n => decide (8192 < n)) := fun fs => by unfold anyLong; rw [List.any_map]; rfl
    rw [e, e, hn]
  have hb : boundB u = boundB t := by unfold boundB; rw [hnn, hfn, hlong]
  have hlo : looseE u = looseE t := by rw [looseE_form, looseE_form, hb, formB_same p1 hfn p2]
  have hfb : filesB u.files = filesB t.files := by
    have e : ∀ fs : List FC, filesB fs = ((fs.map (·.n)).map fW).sum := fun fs => by unfold filesB; rw [List.map_map]; rfl
    rw [e, e, hn]
  have hwb : wgtB u = wgtB t := by unfold wgtB; rw [p1, hfb]
  have hwi : wgtI u = wgtI t := by unfold wgtI; rw [p1, hfl]
  refine ⟨hlo, ?_, ?_, ?_, ?_⟩
  · unfold checkE
    rw [hnn, hlo, p1]
  · unfold wB
    rw [hlo, hwb]
  · unfold wI
    rw [hlo, hwi]
  · unfold treeI
    rw [p1, hfl, filesI_same _ _ ds p2]
theorem eq_items (D : Nat → Int) (W : World) : ∀ is : List Nat, (∀ i ∈ is, i < 32) → (Op.eqItems 9999 5 (Try.prog.cellsOf 5) (arrB 32 D) (arrB 32 D) is).run Try.prog W = .ok true W
  | [], _ => by simp [Op.eqItems]
  | i :: is, h => by
    have hc : Try.prog.cellsOf 5 = 1 := by kernel_rfl
    have hp := run_part_plain (P := Try.prog) W (e := 5) (by kernel_rfl) (arrB_get (f := D) (h i List.mem_cons_self))
    have ih := eq_items D W is fun j hj => h j (List.mem_cons_of_mem _ hj)
    rw [hc] at ih ⊢
    simp only [Op.eqItems, Sem.run_bind, Nat.mul_one, hp, Result.andThen_ok]
    rw [run_equalIn_int W 9998 5 .u8 .u8 (D i) (D i) Try.underlying5]
    simp only [Result.andThen_ok, beq_self_eq_true, Bool.not_true, Bool.false_eq_true, if_false]
    exact ih
theorem dig_same (D : Nat → Int) (W : World) : (Op.equalIn 10000 55 (.agg (arrB 32 D)) (.agg (arrB 32 D))).run Try.prog W = .ok true W := by
  obtain ⟨i, hi⟩ : ∃ i, Try.prog.info? 5 = some i := Option.isSome_iff_exists.1 (show (Try.prog.info? 5).isSome = true by kernel_rfl)
  rw [run_equalIn_array W 9999 (arrB 32 D) (arrB 32 D) Try.underlying55 hi]
  exact eq_items D W _ fun i h => List.mem_range.1 h
end Go.Proofs.Ytdjlchbgdehccaa
