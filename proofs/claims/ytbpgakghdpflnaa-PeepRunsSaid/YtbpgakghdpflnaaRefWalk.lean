/- The walk of shuntref18.rule. -/
import Derived.Test.YtbpgakghdpflnaaRefRule
namespace Go.Proofs.Ytbpgakghdpflnaa
open Go.RowKit

theorem rr_mk_none {w w' : World} (hb : Below w.heap.size w w') : RuleRes none w (.returned (.tuple #[.slice none 0 0, .bool false])) w' := ⟨hb, rfl⟩
theorem rr_mk_nil {w w' : World} (hb : Below w.heap.size w w') : RuleRes (some []) w (.returned (.tuple #[.slice none 0 0, .bool true])) w' := ⟨hb, rfl⟩
theorem rr_mk_one {w W : World} (x : Ins) (hb : Below w.heap.size w W) : RuleRes (some [x]) w (.returned (.tuple #[.slice (some ⟨W.heap.size, 0, none⟩) 1 1, .bool true])) (W.alloc (.cells x.cells 26)) :=
  ⟨hb.alloc hb.size _, _, rfl, hb.size, heap_alloc_new _ _⟩
/-- What is left of a body behind its first k statements. -/
def tailOf : Nat → Code → Code
  | 0, c => c
  | k + 1, .seq _ b => tailOf k b
  | _ + 1, c => c
/-- The block of a body that tailOf has laid bare. -/
def blockOf : Code → Code
  | .seq (.seq _ (.cond _ (.block _ b) _)) _ => b
  | c => c
/-- What a chain of tests goes to behind k of them. -/
def altOf : Nat → Code → Code
  | 0, c => c
  | k + 1, .seq _ (.cond _ _ b) => altOf k b
  | _ + 1, c => c

set_option maxRecDepth 1000000 in
set_option maxHeartbeats 4000000 in
theorem rule_dead {u0 u1 u5 u11 u12 u13 u14 u15 u16 u17 u18 u19 u20 u21 u22 u23 u24 u25 u26 u27 u28 u29 u30 u31 u32 u33 u34 u35 u36 u37 u38 u39 u40 u41 u42 u43 u44 u45 u46 u47 u48 u49 u50 u51 u52 u53 u54 u55 u56 u57 u58 u59 u60 u61 u62 u63 u64 u65 u66 u67 u68 u69 u70 u71 u72 u73 u74 u75 u76 u77 u78 u79 u80 u81 u82 u83 u84 u85 u86 u87 u88 u89 u90 u91 u92 u93 u94 u95 u96 u97 u98 u99 u100 u101 u102 u103 u104 u105 u106 u107 u108 u109 u110 u111 u112 u113 u114 u115 u116 u117 u118 u119 u120 u121 u122 u123 u124 u125 u126 u127 u128 u129 u130 u131 u132 u133 u134 u135 u136 u137 u138 u139 u140 u141 u142 u143 u144 u145 u146 u147 u148 u149 u150 u151 u152 u153 u154 u155 u156 u157 u158 u159 u160 u161 u162 u163 u164 u165 u166 u167 u168 u169 u170 u171 u172 u173 u174 u175 u176 u177 u178 u179 u180 u181 u182 u183 u184 u185 u186 u187 u188 u189 u190 u191 u192 u193 u194 u195 u196 u197 u198 u199 u200 u201 u202 u203 u204 u205 u206 u207 : Value} {set : Int} {s1 s2 s4 : Bool} {w W : World} {x0 x3 x4 y0 y3 y4 : Int} {x1 x2 y1 y2 : ByteArray} {r : Option (List Ins)} (hbW : Below w.heap.size w W) (hX : Ins.at ⟨x0, x1, x2, x3, x4⟩ W w.heap.size 0) (hY : Ins.at ⟨y0, y1, y2, y3, y4⟩ W (w.heap.size + 1) 0) (hr : r = (if (s4 && ((x0 == 1 && (y0 == 2 && (x1.toList == y1.toList))) || ((x0 == 6 && (y0 == 5 && (x1.toList == y1.toList))) || ((x0 == 7 || x0 == 4) && (y0 == 5 && (x2.toList == y1.toList)))))) = true then some [] else none : Option (List Ins))) : (tailOf 7 (Try.f19.body.getD .skip)).wp Try.prog (bodyPost Try.prog Try.f19 (RuleRes r w)) ⟨List.toArray (u0 :: u1 :: .int .i64 set :: .pointer (some ⟨w.heap.size, 0, none⟩) :: .pointer (some ⟨w.heap.size + 1, 0, none⟩) :: u5 :: .slice none 0 0 :: .bool false :: .bool s1 :: .bool s2 :: .bool s4 :: u11 :: u12 :: u13 :: u14 :: u15 :: u16 :: u17 :: u18 :: u19 :: u20 :: u21 :: u22 :: u23 :: u24 :: u25 :: u26 :: u27 :: u28 :: u29 :: u30 :: u31 :: u32 :: u33 :: u34 :: u35 :: u36 :: u37 :: u38 :: u39 :: u40 :: u41 :: u42 :: u43 :: u44 :: u45 :: u46 :: u47 :: u48 :: u49 :: u50 :: u51 :: u52 :: u53 :: u54 :: u55 :: u56 :: u57 :: u58 :: u59 :: u60 :: u61 :: u62 :: u63 :: u64 :: u65 :: u66 :: u67 :: u68 :: u69 :: u70 :: u71 :: u72 :: u73 :: u74 :: u75 :: u76 :: u77 :: u78 :: u79 :: u80 :: u81 :: u82 :: u83 :: u84 :: u85 :: u86 :: u87 :: u88 :: u89 :: u90 :: u91 :: u92 :: u93 :: u94 :: u95 :: u96 :: u97 :: u98 :: u99 :: u100 :: u101 :: u102 :: u103 :: u104 :: u105 :: u106 :: u107 :: u108 :: u109 :: u110 :: u111 :: u112 :: u113 :: u114 :: u115 :: u116 :: u117 :: u118 :: u119 :: u120 :: u121 :: u122 :: u123 :: u124 :: u125 :: u126 :: u127 :: u128 :: u129 :: u130 :: u131 :: u132 :: u133 :: u134 :: u135 :: u136 :: u137 :: u138 :: u139 :: u140 :: u141 :: u142 :: u143 :: u144 :: u145 :: u146 :: u147 :: u148 :: u149 :: u150 :: u151 :: u152 :: u153 :: u154 :: u155 :: u156 :: u157 :: u158 :: u159 :: u160 :: u161 :: u162 :: u163 :: u164 :: u165 :: u166 :: u167 :: u168 :: u169 :: u170 :: u171 :: u172 :: u173 :: u174 :: u175 :: u176 :: u177 :: u178 :: u179 :: u180 :: u181 :: u182 :: u183 :: u184 :: u185 :: u186 :: u187 :: u188 :: u189 :: u190 :: u191 :: u192 :: u193 :: u194 :: u195 :: u196 :: u197 :: u198 :: u199 :: u200 :: u201 :: u202 :: u203 :: u204 :: u205 :: u206 :: u207 :: []), []⟩ W := by
  obtain ⟨X0, X1, X2, X3, X4⟩ := hX
  obtain ⟨Y0, Y1, Y2, Y3, Y4⟩ := hY
  simp only [Nat.zero_add] at X0 X1 X2 X3 X4 Y0 Y1 Y2 Y3 Y4
  replace hr := Lib.hid hr
  conv => arg 2; whnf
  go_upto_region 19 with (fail)
  go_cut [10, 207] (fun l0 v wx => l0 = .bool s4 ∧  v = .bool (s4 && ((x0 == 1 && (y0 == 2 && (x1.toList == y1.toList))) || ((x0 == 6 && (y0 == 5 && (x1.toList == y1.toList))) || ((x0 == 7 || x0 == 4) && (y0 == 5 && (x2.toList == y1.toList)))))) ∧ W = wx)
  case first =>
    go_wp2
    all_goals (go_meet; exact ⟨(by first | rfl | simp [*]), (by first | rfl | simp [*]), rfl⟩)
  case rest =>
    obtain ⟨rfl, hv, rfl⟩ := hcut
    cases hC1 : (s4 && ((x0 == 1 && (y0 == 2 && (x1.toList == y1.toList))) || ((x0 == 6 && (y0 == 5 && (x1.toList == y1.toList))) || ((x0 == 7 || x0 == 4) && (y0 == 5 && (x2.toList == y1.toList)))))) with
    | true =>
      rw [hC1] at hv; subst hv; replace hC1 := Lib.hid hC1
      have hfin : r = some [] := by rw [hr.out]; simp [hC1.out]
      replace hfin := Lib.hid hfin
      go_wp2
      go_ret2
      rw [hfin.out]
      exact rr_mk_nil hbW
    | false =>
      rw [hC1] at hv; subst hv; replace hC1 := Lib.hid hC1
      have hfin : r = none := by rw [hr.out]; simp [hC1.out]
      replace hfin := Lib.hid hfin
      go_wp2
      go_ret2
      rw [hfin.out]
      exact rr_mk_none hbW
set_option maxRecDepth 1000000 in
set_option maxHeartbeats 4000000 in
theorem rule_m3 {u0 u1 u5 u11 u12 u13 u14 u15 u16 u17 u18 u19 u20 u21 u22 u23 u24 u25 u26 u27 u28 u29 u30 u31 u32 u33 u34 u35 u36 u37 u38 u39 u40 u41 u42 u43 u44 u45 u46 u47 u48 u49 u50 u51 u52 u53 u54 u55 u56 u57 u58 u59 u60 u61 u62 u63 u64 u65 u66 u67 u68 u69 u70 u71 u72 u73 u74 u75 u76 u77 u78 u79 u80 u81 u82 u83 u84 u85 u86 u87 u88 u89 u90 u91 u92 u93 u94 u95 u96 u97 u98 u99 u100 u101 u102 u103 u104 u105 u106 u107 u108 u109 u110 u111 u112 u113 u114 u115 u116 u117 u118 u119 u120 u121 u122 u123 u124 u125 u126 u127 u128 u129 u130 u131 u132 u133 u134 u135 u136 u137 u138 u139 u140 u141 u142 u143 u144 u145 u146 u147 u148 u149 u150 u151 u152 u153 u154 u155 u156 u157 u158 u159 u160 u161 u162 u163 u164 u165 u166 u167 u168 u169 u170 u171 u172 u173 u174 u175 u176 u177 u178 u179 u180 u181 u182 u183 u184 u185 u186 u187 u188 u189 u190 u191 u192 u193 u194 u195 u196 u197 u198 u199 u200 u201 u202 u203 u204 u205 u206 u207 : Value} {set : Int} {s1 s2 s4 : Bool} {w W : World} {x0 x3 x4 y0 y3 y4 : Int} {x1 x2 y1 y2 : ByteArray} {r : Option (List Ins)} (hbW : Below w.heap.size w W) (hX : Ins.at ⟨x0, x1, x2, x3, x4⟩ W w.heap.size 0) (hY : Ins.at ⟨y0, y1, y2, y3, y4⟩ W (w.heap.size + 1) 0) {K2 : Act → World → Prop} (hK2 : ∀ a w1, (tailOf 7 (Try.f19.body.getD .skip)).wp Try.prog (bodyPost Try.prog Try.f19 (RuleRes r w)) a w1 → K2 a w1) (hr : r = (if (x0 == 8 && (x1.toList == y1.toList)) = true then some [⟨8, x1, ByteArray.empty, y3, 0⟩] else (if (s4 && ((x0 == 1 && (y0 == 2 && (x1.toList == y1.toList))) || ((x0 == 6 && (y0 == 5 && (x1.toList == y1.toList))) || ((x0 == 7 || x0 == 4) && (y0 == 5 && (x2.toList == y1.toList)))))) = true then some [] else none : Option (List Ins)))) : (altOf 3 (blockOf (tailOf 6 (Try.f19.body.getD .skip)))).wp Try.prog (Exit.inBlock 0 (Exit.then K2 (bodyPost Try.prog Try.f19 (RuleRes r w)))) ⟨List.toArray (u0 :: u1 :: .int .i64 set :: .pointer (some ⟨w.heap.size, 0, none⟩) :: .pointer (some ⟨w.heap.size + 1, 0, none⟩) :: u5 :: .slice none 0 0 :: .bool false :: .bool s1 :: .bool s2 :: .bool s4 :: u11 :: u12 :: u13 :: u14 :: u15 :: u16 :: u17 :: u18 :: u19 :: u20 :: u21 :: u22 :: u23 :: u24 :: u25 :: u26 :: u27 :: u28 :: u29 :: u30 :: u31 :: u32 :: u33 :: u34 :: u35 :: u36 :: u37 :: u38 :: u39 :: u40 :: u41 :: u42 :: u43 :: u44 :: u45 :: u46 :: u47 :: u48 :: u49 :: u50 :: u51 :: u52 :: u53 :: u54 :: u55 :: u56 :: u57 :: u58 :: u59 :: u60 :: u61 :: u62 :: u63 :: u64 :: u65 :: u66 :: u67 :: u68 :: u69 :: u70 :: u71 :: u72 :: u73 :: u74 :: u75 :: u76 :: u77 :: u78 :: u79 :: u80 :: u81 :: u82 :: u83 :: u84 :: u85 :: u86 :: u87 :: u88 :: u89 :: u90 :: u91 :: u92 :: u93 :: u94 :: u95 :: u96 :: u97 :: u98 :: u99 :: u100 :: u101 :: u102 :: u103 :: u104 :: u105 :: u106 :: u107 :: u108 :: u109 :: u110 :: u111 :: u112 :: u113 :: u114 :: u115 :: u116 :: u117 :: u118 :: u119 :: u120 :: u121 :: u122 :: u123 :: u124 :: u125 :: u126 :: u127 :: u128 :: u129 :: u130 :: u131 :: u132 :: u133 :: u134 :: u135 :: u136 :: u137 :: u138 :: u139 :: u140 :: u141 :: u142 :: u143 :: u144 :: u145 :: u146 :: u147 :: u148 :: u149 :: u150 :: u151 :: u152 :: u153 :: u154 :: u155 :: u156 :: u157 :: u158 :: u159 :: u160 :: u161 :: u162 :: u163 :: u164 :: u165 :: u166 :: u167 :: u168 :: u169 :: u170 :: u171 :: u172 :: u173 :: u174 :: u175 :: u176 :: u177 :: u178 :: u179 :: u180 :: u181 :: u182 :: u183 :: u184 :: u185 :: u186 :: u187 :: u188 :: u189 :: u190 :: u191 :: u192 :: u193 :: u194 :: u195 :: u196 :: u197 :: u198 :: u199 :: u200 :: u201 :: u202 :: u203 :: u204 :: u205 :: u206 :: u207 :: []), []⟩ W := by
  obtain ⟨X0, X1, X2, X3, X4⟩ := hX
  obtain ⟨Y0, Y1, Y2, Y3, Y4⟩ := hY
  simp only [Nat.zero_add] at X0 X1 X2 X3 X4 Y0 Y1 Y2 Y3 Y4
  replace hr := Lib.hid hr
  conv => arg 2; whnf
  go_upto_region 17 with (fail)
  go_cut [134] (fun  v wx =>  v = .bool (x0 == 8 && (x1.toList == y1.toList)) ∧ W = wx)
  case first =>
    go_wp2
    all_goals (go_meet; exact ⟨(by first | rfl | simp [*]), rfl⟩)
  case rest =>
    obtain ⟨hv, rfl⟩ := hcut
    cases hC2 : (x0 == 8 && (x1.toList == y1.toList)) with
    | true =>
      rw [hC2] at hv; subst hv; replace hC2 := Lib.hid hC2
      have hfin : r = some [⟨8, x1, ByteArray.empty, y3, 0⟩] := by rw [hr.out]; simp [hC2.out]
      replace hfin := Lib.hid hfin
      go_wp2
      go_ret2
      rw [hfin.out]
      exact rr_mk_one ⟨8, x1, ByteArray.empty, y3, 0⟩ hbW
    | false =>
      rw [hC2] at hv; subst hv; replace hC2 := Lib.hid hC2
      rename_i Kx hKx
      refine hKx _ _ (wp_cond_false rfl (wp_skip (hK2 _ _ ?_)))
      exact rule_dead (r := r) (w := w) (set := set) (s1 := s1) (s2 := s2) (s4 := s4) hbW ⟨X0, X1, X2, X3, X4⟩ ⟨Y0, Y1, Y2, Y3, Y4⟩ (by rw [hr.out]; simp only [hC2.out]; simp)

set_option maxRecDepth 1000000 in
set_option maxHeartbeats 4000000 in
theorem rule_m2 {u0 u1 u5 u11 u12 u13 u14 u15 u16 u17 u18 u19 u20 u21 u22 u23 u24 u25 u26 u27 u28 u29 u30 u31 u32 u33 u34 u35 u36 u37 u38 u39 u40 u41 u42 u43 u44 u45 u46 u47 u48 u49 u50 u51 u52 u53 u54 u55 u56 u57 u58 u59 u60 u61 u62 u63 u64 u65 u66 u67 u68 u69 u70 u71 u72 u73 u74 u75 u76 u77 u78 u79 u80 u81 u82 u83 u84 u85 u86 u87 u88 u89 u90 u91 u92 u93 u94 u95 u96 u97 u98 u99 u100 u101 u102 u103 u104 u105 u106 u107 u108 u109 u110 u111 u112 u113 u114 u115 u116 u117 u118 u119 u120 u121 u122 u123 u124 u125 u126 u127 u128 u129 u130 u131 u132 u133 u134 u135 u136 u137 u138 u139 u140 u141 u142 u143 u144 u145 u146 u147 u148 u149 u150 u151 u152 u153 u154 u155 u156 u157 u158 u159 u160 u161 u162 u163 u164 u165 u166 u167 u168 u169 u170 u171 u172 u173 u174 u175 u176 u177 u178 u179 u180 u181 u182 u183 u184 u185 u186 u187 u188 u189 u190 u191 u192 u193 u194 u195 u196 u197 u198 u199 u200 u201 u202 u203 u204 u205 u206 u207 : Value} {set : Int} {s1 s2 s4 : Bool} {w W : World} {x0 x3 x4 y0 y3 y4 : Int} {x1 x2 y1 y2 : ByteArray} {r : Option (List Ins)} (hbW : Below w.heap.size w W) (hX : Ins.at ⟨x0, x1, x2, x3, x4⟩ W w.heap.size 0) (hY : Ins.at ⟨y0, y1, y2, y3, y4⟩ W (w.heap.size + 1) 0) {K2 : Act → World → Prop} (hK2 : ∀ a w1, (tailOf 7 (Try.f19.body.getD .skip)).wp Try.prog (bodyPost Try.prog Try.f19 (RuleRes r w)) a w1 → K2 a w1) (hr : r = (if (x0 == 7 && (x2.toList == y1.toList)) = true then some [⟨7, x1, x2, y3, 0⟩] else if (x0 == 8 && (x1.toList == y1.toList)) = true then some [⟨8, x1, ByteArray.empty, y3, 0⟩] else (if (s4 && ((x0 == 1 && (y0 == 2 && (x1.toList == y1.toList))) || ((x0 == 6 && (y0 == 5 && (x1.toList == y1.toList))) || ((x0 == 7 || x0 == 4) && (y0 == 5 && (x2.toList == y1.toList)))))) = true then some [] else none : Option (List Ins)))) : (altOf 2 (blockOf (tailOf 6 (Try.f19.body.getD .skip)))).wp Try.prog (Exit.inBlock 0 (Exit.then K2 (bodyPost Try.prog Try.f19 (RuleRes r w)))) ⟨List.toArray (u0 :: u1 :: .int .i64 set :: .pointer (some ⟨w.heap.size, 0, none⟩) :: .pointer (some ⟨w.heap.size + 1, 0, none⟩) :: u5 :: .slice none 0 0 :: .bool false :: .bool s1 :: .bool s2 :: .bool s4 :: u11 :: u12 :: u13 :: u14 :: u15 :: u16 :: u17 :: u18 :: u19 :: u20 :: u21 :: u22 :: u23 :: u24 :: u25 :: u26 :: u27 :: u28 :: u29 :: u30 :: u31 :: u32 :: u33 :: u34 :: u35 :: u36 :: u37 :: u38 :: u39 :: u40 :: u41 :: u42 :: u43 :: u44 :: u45 :: u46 :: u47 :: u48 :: u49 :: u50 :: u51 :: u52 :: u53 :: u54 :: u55 :: u56 :: u57 :: u58 :: u59 :: u60 :: u61 :: u62 :: u63 :: u64 :: u65 :: u66 :: u67 :: u68 :: u69 :: u70 :: u71 :: u72 :: u73 :: u74 :: u75 :: u76 :: u77 :: u78 :: u79 :: u80 :: u81 :: u82 :: u83 :: u84 :: u85 :: u86 :: u87 :: u88 :: u89 :: u90 :: u91 :: u92 :: u93 :: u94 :: u95 :: u96 :: u97 :: u98 :: u99 :: u100 :: u101 :: u102 :: u103 :: u104 :: u105 :: u106 :: u107 :: u108 :: u109 :: u110 :: u111 :: u112 :: u113 :: u114 :: u115 :: u116 :: u117 :: u118 :: u119 :: u120 :: u121 :: u122 :: u123 :: u124 :: u125 :: u126 :: u127 :: u128 :: u129 :: u130 :: u131 :: u132 :: u133 :: u134 :: u135 :: u136 :: u137 :: u138 :: u139 :: u140 :: u141 :: u142 :: u143 :: u144 :: u145 :: u146 :: u147 :: u148 :: u149 :: u150 :: u151 :: u152 :: u153 :: u154 :: u155 :: u156 :: u157 :: u158 :: u159 :: u160 :: u161 :: u162 :: u163 :: u164 :: u165 :: u166 :: u167 :: u168 :: u169 :: u170 :: u171 :: u172 :: u173 :: u174 :: u175 :: u176 :: u177 :: u178 :: u179 :: u180 :: u181 :: u182 :: u183 :: u184 :: u185 :: u186 :: u187 :: u188 :: u189 :: u190 :: u191 :: u192 :: u193 :: u194 :: u195 :: u196 :: u197 :: u198 :: u199 :: u200 :: u201 :: u202 :: u203 :: u204 :: u205 :: u206 :: u207 :: []), []⟩ W := by
  obtain ⟨X0, X1, X2, X3, X4⟩ := hX
  obtain ⟨Y0, Y1, Y2, Y3, Y4⟩ := hY
  simp only [Nat.zero_add] at X0 X1 X2 X3 X4 Y0 Y1 Y2 Y3 Y4
  replace hr := Lib.hid hr
  conv => arg 2; whnf
  go_upto_region 15 with (fail)
  go_cut [115] (fun  v wx =>  v = .bool (x0 == 7 && (x2.toList == y1.toList)) ∧ W = wx)
  case first =>
    go_wp2
    all_goals (go_meet; exact ⟨(by first | rfl | simp [*]), rfl⟩)
  case rest =>
    obtain ⟨hv, rfl⟩ := hcut
    cases hC3 : (x0 == 7 && (x2.toList == y1.toList)) with
    | true =>
      rw [hC3] at hv; subst hv; replace hC3 := Lib.hid hC3
      have hfin : r = some [⟨7, x1, x2, y3, 0⟩] := by rw [hr.out]; simp [hC3.out]
      replace hfin := Lib.hid hfin
      go_wp2
      go_ret2
      rw [hfin.out]
      exact rr_mk_one ⟨7, x1, x2, y3, 0⟩ hbW
    | false =>
      rw [hC3] at hv; subst hv; replace hC3 := Lib.hid hC3
      rename_i Kx hKx
      refine hKx _ _ (wp_cond_false rfl ?_)
      exact rule_m3 (r := r) (w := w) (set := set) (s1 := s1) (s2 := s2) (s4 := s4) hbW ⟨X0, X1, X2, X3, X4⟩ ⟨Y0, Y1, Y2, Y3, Y4⟩ hK2 (by rw [hr.out]; simp only [hC3.out]; simp)

set_option maxRecDepth 1000000 in
set_option maxHeartbeats 4000000 in
theorem rule_m1 {u0 u1 u5 u11 u12 u13 u14 u15 u16 u17 u18 u19 u20 u21 u22 u23 u24 u25 u26 u27 u28 u29 u30 u31 u32 u33 u34 u35 u36 u37 u38 u39 u40 u41 u42 u43 u44 u45 u46 u47 u48 u49 u50 u51 u52 u53 u54 u55 u56 u57 u58 u59 u60 u61 u62 u63 u64 u65 u66 u67 u68 u69 u70 u71 u72 u73 u74 u75 u76 u77 u78 u79 u80 u81 u82 u83 u84 u85 u86 u87 u88 u89 u90 u91 u92 u93 u94 u95 u96 u97 u98 u99 u100 u101 u102 u103 u104 u105 u106 u107 u108 u109 u110 u111 u112 u113 u114 u115 u116 u117 u118 u119 u120 u121 u122 u123 u124 u125 u126 u127 u128 u129 u130 u131 u132 u133 u134 u135 u136 u137 u138 u139 u140 u141 u142 u143 u144 u145 u146 u147 u148 u149 u150 u151 u152 u153 u154 u155 u156 u157 u158 u159 u160 u161 u162 u163 u164 u165 u166 u167 u168 u169 u170 u171 u172 u173 u174 u175 u176 u177 u178 u179 u180 u181 u182 u183 u184 u185 u186 u187 u188 u189 u190 u191 u192 u193 u194 u195 u196 u197 u198 u199 u200 u201 u202 u203 u204 u205 u206 u207 : Value} {set : Int} {s1 s2 s4 : Bool} {w W : World} {x0 x3 x4 y0 y3 y4 : Int} {x1 x2 y1 y2 : ByteArray} {r : Option (List Ins)} (hbW : Below w.heap.size w W) (hX : Ins.at ⟨x0, x1, x2, x3, x4⟩ W w.heap.size 0) (hY : Ins.at ⟨y0, y1, y2, y3, y4⟩ W (w.heap.size + 1) 0) {K2 : Act → World → Prop} (hK2 : ∀ a w1, (tailOf 7 (Try.f19.body.getD .skip)).wp Try.prog (bodyPost Try.prog Try.f19 (RuleRes r w)) a w1 → K2 a w1) (hr : r = (if (x0 == 6 && (x1.toList == y1.toList)) = true then some [⟨6, x1, ByteArray.empty, y3, x4⟩] else if (x0 == 7 && (x2.toList == y1.toList)) = true then some [⟨7, x1, x2, y3, 0⟩] else if (x0 == 8 && (x1.toList == y1.toList)) = true then some [⟨8, x1, ByteArray.empty, y3, 0⟩] else (if (s4 && ((x0 == 1 && (y0 == 2 && (x1.toList == y1.toList))) || ((x0 == 6 && (y0 == 5 && (x1.toList == y1.toList))) || ((x0 == 7 || x0 == 4) && (y0 == 5 && (x2.toList == y1.toList)))))) = true then some [] else none : Option (List Ins)))) : (altOf 1 (blockOf (tailOf 6 (Try.f19.body.getD .skip)))).wp Try.prog (Exit.inBlock 0 (Exit.then K2 (bodyPost Try.prog Try.f19 (RuleRes r w)))) ⟨List.toArray (u0 :: u1 :: .int .i64 set :: .pointer (some ⟨w.heap.size, 0, none⟩) :: .pointer (some ⟨w.heap.size + 1, 0, none⟩) :: u5 :: .slice none 0 0 :: .bool false :: .bool s1 :: .bool s2 :: .bool s4 :: u11 :: u12 :: u13 :: u14 :: u15 :: u16 :: u17 :: u18 :: u19 :: u20 :: u21 :: u22 :: u23 :: u24 :: u25 :: u26 :: u27 :: u28 :: u29 :: u30 :: u31 :: u32 :: u33 :: u34 :: u35 :: u36 :: u37 :: u38 :: u39 :: u40 :: u41 :: u42 :: u43 :: u44 :: u45 :: u46 :: u47 :: u48 :: u49 :: u50 :: u51 :: u52 :: u53 :: u54 :: u55 :: u56 :: u57 :: u58 :: u59 :: u60 :: u61 :: u62 :: u63 :: u64 :: u65 :: u66 :: u67 :: u68 :: u69 :: u70 :: u71 :: u72 :: u73 :: u74 :: u75 :: u76 :: u77 :: u78 :: u79 :: u80 :: u81 :: u82 :: u83 :: u84 :: u85 :: u86 :: u87 :: u88 :: u89 :: u90 :: u91 :: u92 :: u93 :: u94 :: u95 :: u96 :: u97 :: u98 :: u99 :: u100 :: u101 :: u102 :: u103 :: u104 :: u105 :: u106 :: u107 :: u108 :: u109 :: u110 :: u111 :: u112 :: u113 :: u114 :: u115 :: u116 :: u117 :: u118 :: u119 :: u120 :: u121 :: u122 :: u123 :: u124 :: u125 :: u126 :: u127 :: u128 :: u129 :: u130 :: u131 :: u132 :: u133 :: u134 :: u135 :: u136 :: u137 :: u138 :: u139 :: u140 :: u141 :: u142 :: u143 :: u144 :: u145 :: u146 :: u147 :: u148 :: u149 :: u150 :: u151 :: u152 :: u153 :: u154 :: u155 :: u156 :: u157 :: u158 :: u159 :: u160 :: u161 :: u162 :: u163 :: u164 :: u165 :: u166 :: u167 :: u168 :: u169 :: u170 :: u171 :: u172 :: u173 :: u174 :: u175 :: u176 :: u177 :: u178 :: u179 :: u180 :: u181 :: u182 :: u183 :: u184 :: u185 :: u186 :: u187 :: u188 :: u189 :: u190 :: u191 :: u192 :: u193 :: u194 :: u195 :: u196 :: u197 :: u198 :: u199 :: u200 :: u201 :: u202 :: u203 :: u204 :: u205 :: u206 :: u207 :: []), []⟩ W := by
  obtain ⟨X0, X1, X2, X3, X4⟩ := hX
  obtain ⟨Y0, Y1, Y2, Y3, Y4⟩ := hY
  simp only [Nat.zero_add] at X0 X1 X2 X3 X4 Y0 Y1 Y2 Y3 Y4
  replace hr := Lib.hid hr
  conv => arg 2; whnf
  go_upto_region 13 with (fail)
  go_cut [96] (fun  v wx =>  v = .bool (x0 == 6 && (x1.toList == y1.toList)) ∧ W = wx)
  case first =>
    go_wp2
    all_goals (go_meet; exact ⟨(by first | rfl | simp [*]), rfl⟩)
  case rest =>
    obtain ⟨hv, rfl⟩ := hcut
    cases hC4 : (x0 == 6 && (x1.toList == y1.toList)) with
    | true =>
      rw [hC4] at hv; subst hv; replace hC4 := Lib.hid hC4
      have hfin : r = some [⟨6, x1, ByteArray.empty, y3, x4⟩] := by rw [hr.out]; simp [hC4.out]
      replace hfin := Lib.hid hfin
      go_wp2
      go_ret2
      rw [hfin.out]
      exact rr_mk_one ⟨6, x1, ByteArray.empty, y3, x4⟩ hbW
    | false =>
      rw [hC4] at hv; subst hv; replace hC4 := Lib.hid hC4
      rename_i Kx hKx
      refine hKx _ _ (wp_cond_false rfl ?_)
      exact rule_m2 (r := r) (w := w) (set := set) (s1 := s1) (s2 := s2) (s4 := s4) hbW ⟨X0, X1, X2, X3, X4⟩ ⟨Y0, Y1, Y2, Y3, Y4⟩ hK2 (by rw [hr.out]; simp only [hC4.out]; simp)

set_option maxRecDepth 1000000 in
set_option maxHeartbeats 4000000 in
theorem rule_m0 {u0 u1 u5 u11 u12 u13 u14 u15 u16 u17 u18 u19 u20 u21 u22 u23 u24 u25 u26 u27 u28 u29 u30 u31 u32 u33 u34 u35 u36 u37 u38 u39 u40 u41 u42 u43 u44 u45 u46 u47 u48 u49 u50 u51 u52 u53 u54 u55 u56 u57 u58 u59 u60 u61 u62 u63 u64 u65 u66 u67 u68 u69 u70 u71 u72 u73 u74 u75 u76 u77 u78 u79 u80 u81 u82 u83 u84 u85 u86 u87 u88 u89 u90 u91 u92 u93 u94 u95 u96 u97 u98 u99 u100 u101 u102 u103 u104 u105 u106 u107 u108 u109 u110 u111 u112 u113 u114 u115 u116 u117 u118 u119 u120 u121 u122 u123 u124 u125 u126 u127 u128 u129 u130 u131 u132 u133 u134 u135 u136 u137 u138 u139 u140 u141 u142 u143 u144 u145 u146 u147 u148 u149 u150 u151 u152 u153 u154 u155 u156 u157 u158 u159 u160 u161 u162 u163 u164 u165 u166 u167 u168 u169 u170 u171 u172 u173 u174 u175 u176 u177 u178 u179 u180 u181 u182 u183 u184 u185 u186 u187 u188 u189 u190 u191 u192 u193 u194 u195 u196 u197 u198 u199 u200 u201 u202 u203 u204 u205 u206 u207 : Value} {set : Int} {s1 s2 s4 : Bool} {w W : World} {x0 x3 x4 y0 y3 y4 : Int} {x1 x2 y1 y2 : ByteArray} {r : Option (List Ins)} (hbW : Below w.heap.size w W) (hX : Ins.at ⟨x0, x1, x2, x3, x4⟩ W w.heap.size 0) (hY : Ins.at ⟨y0, y1, y2, y3, y4⟩ W (w.heap.size + 1) 0) {K2 : Act → World → Prop} (hK2 : ∀ a w1, (tailOf 7 (Try.f19.body.getD .skip)).wp Try.prog (bodyPost Try.prog Try.f19 (RuleRes r w)) a w1 → K2 a w1) (hr : r = (if (x0 == 1 && (x1.toList == y1.toList)) = true then some [⟨1, x1, ByteArray.empty, y3, 0⟩] else if (x0 == 6 && (x1.toList == y1.toList)) = true then some [⟨6, x1, ByteArray.empty, y3, x4⟩] else if (x0 == 7 && (x2.toList == y1.toList)) = true then some [⟨7, x1, x2, y3, 0⟩] else if (x0 == 8 && (x1.toList == y1.toList)) = true then some [⟨8, x1, ByteArray.empty, y3, 0⟩] else (if (s4 && ((x0 == 1 && (y0 == 2 && (x1.toList == y1.toList))) || ((x0 == 6 && (y0 == 5 && (x1.toList == y1.toList))) || ((x0 == 7 || x0 == 4) && (y0 == 5 && (x2.toList == y1.toList)))))) = true then some [] else none : Option (List Ins)))) : (altOf 0 (blockOf (tailOf 6 (Try.f19.body.getD .skip)))).wp Try.prog (Exit.inBlock 0 (Exit.then K2 (bodyPost Try.prog Try.f19 (RuleRes r w)))) ⟨List.toArray (u0 :: u1 :: .int .i64 set :: .pointer (some ⟨w.heap.size, 0, none⟩) :: .pointer (some ⟨w.heap.size + 1, 0, none⟩) :: u5 :: .slice none 0 0 :: .bool false :: .bool s1 :: .bool s2 :: .bool s4 :: u11 :: u12 :: u13 :: u14 :: u15 :: u16 :: u17 :: u18 :: u19 :: u20 :: u21 :: u22 :: u23 :: u24 :: u25 :: u26 :: u27 :: u28 :: u29 :: u30 :: u31 :: u32 :: u33 :: u34 :: u35 :: u36 :: u37 :: u38 :: u39 :: u40 :: u41 :: u42 :: u43 :: u44 :: u45 :: u46 :: u47 :: u48 :: u49 :: u50 :: u51 :: u52 :: u53 :: u54 :: u55 :: u56 :: u57 :: u58 :: u59 :: u60 :: u61 :: u62 :: u63 :: u64 :: u65 :: u66 :: u67 :: u68 :: u69 :: u70 :: u71 :: u72 :: u73 :: u74 :: u75 :: u76 :: u77 :: u78 :: u79 :: u80 :: u81 :: u82 :: u83 :: u84 :: u85 :: u86 :: u87 :: u88 :: u89 :: u90 :: u91 :: u92 :: u93 :: u94 :: u95 :: u96 :: u97 :: u98 :: u99 :: u100 :: u101 :: u102 :: u103 :: u104 :: u105 :: u106 :: u107 :: u108 :: u109 :: u110 :: u111 :: u112 :: u113 :: u114 :: u115 :: u116 :: u117 :: u118 :: u119 :: u120 :: u121 :: u122 :: u123 :: u124 :: u125 :: u126 :: u127 :: u128 :: u129 :: u130 :: u131 :: u132 :: u133 :: u134 :: u135 :: u136 :: u137 :: u138 :: u139 :: u140 :: u141 :: u142 :: u143 :: u144 :: u145 :: u146 :: u147 :: u148 :: u149 :: u150 :: u151 :: u152 :: u153 :: u154 :: u155 :: u156 :: u157 :: u158 :: u159 :: u160 :: u161 :: u162 :: u163 :: u164 :: u165 :: u166 :: u167 :: u168 :: u169 :: u170 :: u171 :: u172 :: u173 :: u174 :: u175 :: u176 :: u177 :: u178 :: u179 :: u180 :: u181 :: u182 :: u183 :: u184 :: u185 :: u186 :: u187 :: u188 :: u189 :: u190 :: u191 :: u192 :: u193 :: u194 :: u195 :: u196 :: u197 :: u198 :: u199 :: u200 :: u201 :: u202 :: u203 :: u204 :: u205 :: u206 :: u207 :: []), []⟩ W := by
  obtain ⟨X0, X1, X2, X3, X4⟩ := hX
  obtain ⟨Y0, Y1, Y2, Y3, Y4⟩ := hY
  simp only [Nat.zero_add] at X0 X1 X2 X3 X4 Y0 Y1 Y2 Y3 Y4
  replace hr := Lib.hid hr
  conv => arg 2; whnf
  go_upto_region 11 with (fail)
  go_cut [79] (fun  v wx =>  v = .bool (x0 == 1 && (x1.toList == y1.toList)) ∧ W = wx)
  case first =>
    go_wp2
    all_goals (go_meet; exact ⟨(by first | rfl | simp [*]), rfl⟩)
  case rest =>
    obtain ⟨hv, rfl⟩ := hcut
    cases hC5 : (x0 == 1 && (x1.toList == y1.toList)) with
    | true =>
      rw [hC5] at hv; subst hv; replace hC5 := Lib.hid hC5
      have hfin : r = some [⟨1, x1, ByteArray.empty, y3, 0⟩] := by rw [hr.out]; simp [hC5.out]
      replace hfin := Lib.hid hfin
      go_wp2
      go_ret2
      rw [hfin.out]
      exact rr_mk_one ⟨1, x1, ByteArray.empty, y3, 0⟩ hbW
    | false =>
      rw [hC5] at hv; subst hv; replace hC5 := Lib.hid hC5
      rename_i Kx hKx
      refine hKx _ _ (wp_cond_false rfl ?_)
      exact rule_m1 (r := r) (w := w) (set := set) (s1 := s1) (s2 := s2) (s4 := s4) hbW ⟨X0, X1, X2, X3, X4⟩ ⟨Y0, Y1, Y2, Y3, Y4⟩ hK2 (by rw [hr.out]; simp only [hC5.out]; simp)


set_option maxRecDepth 1000000 in
set_option maxHeartbeats 4000000 in
theorem rule_modes {u0 u1 u5 u11 u12 u13 u14 u15 u16 u17 u18 u19 u20 u21 u22 u23 u24 u25 u26 u27 u28 u29 u30 u31 u32 u33 u34 u35 u36 u37 u38 u39 u40 u41 u42 u43 u44 u45 u46 u47 u48 u49 u50 u51 u52 u53 u54 u55 u56 u57 u58 u59 u60 u61 u62 u63 u64 u65 u66 u67 u68 u69 u70 u71 u72 u73 u74 u75 u76 u77 u78 u79 u80 u81 u82 u83 u84 u85 u86 u87 u88 u89 u90 u91 u92 u93 u94 u95 u96 u97 u98 u99 u100 u101 u102 u103 u104 u105 u106 u107 u108 u109 u110 u111 u112 u113 u114 u115 u116 u117 u118 u119 u120 u121 u122 u123 u124 u125 u126 u127 u128 u129 u130 u131 u132 u133 u134 u135 u136 u137 u138 u139 u140 u141 u142 u143 u144 u145 u146 u147 u148 u149 u150 u151 u152 u153 u154 u155 u156 u157 u158 u159 u160 u161 u162 u163 u164 u165 u166 u167 u168 u169 u170 u171 u172 u173 u174 u175 u176 u177 u178 u179 u180 u181 u182 u183 u184 u185 u186 u187 u188 u189 u190 u191 u192 u193 u194 u195 u196 u197 u198 u199 u200 u201 u202 u203 u204 u205 u206 u207 : Value} {set : Int} {s1 s2 s4 : Bool} {w W : World} {x0 x3 x4 y0 y3 y4 : Int} {x1 x2 y1 y2 : ByteArray} {r : Option (List Ins)} (hbW : Below w.heap.size w W) (hX : Ins.at ⟨x0, x1, x2, x3, x4⟩ W w.heap.size 0) (hY : Ins.at ⟨y0, y1, y2, y3, y4⟩ W (w.heap.size + 1) 0) (hr : r = (if (s2 && y0 == 8) = true ∧ (x0 == 1 && (x1.toList == y1.toList)) = true then some [⟨1, x1, ByteArray.empty, y3, 0⟩] else if (s2 && y0 == 8) = true ∧ (x0 == 6 && (x1.toList == y1.toList)) = true then some [⟨6, x1, ByteArray.empty, y3, x4⟩] else if (s2 && y0 == 8) = true ∧ (x0 == 7 && (x2.toList == y1.toList)) = true then some [⟨7, x1, x2, y3, 0⟩] else if (s2 && y0 == 8) = true ∧ (x0 == 8 && (x1.toList == y1.toList)) = true then some [⟨8, x1, ByteArray.empty, y3, 0⟩] else (if (s4 && ((x0 == 1 && (y0 == 2 && (x1.toList == y1.toList))) || ((x0 == 6 && (y0 == 5 && (x1.toList == y1.toList))) || ((x0 == 7 || x0 == 4) && (y0 == 5 && (x2.toList == y1.toList)))))) = true then some [] else none : Option (List Ins)))) : (tailOf 6 (Try.f19.body.getD .skip)).wp Try.prog (bodyPost Try.prog Try.f19 (RuleRes r w)) ⟨List.toArray (u0 :: u1 :: .int .i64 set :: .pointer (some ⟨w.heap.size, 0, none⟩) :: .pointer (some ⟨w.heap.size + 1, 0, none⟩) :: u5 :: .slice none 0 0 :: .bool false :: .bool s1 :: .bool s2 :: .bool s4 :: u11 :: u12 :: u13 :: u14 :: u15 :: u16 :: u17 :: u18 :: u19 :: u20 :: u21 :: u22 :: u23 :: u24 :: u25 :: u26 :: u27 :: u28 :: u29 :: u30 :: u31 :: u32 :: u33 :: u34 :: u35 :: u36 :: u37 :: u38 :: u39 :: u40 :: u41 :: u42 :: u43 :: u44 :: u45 :: u46 :: u47 :: u48 :: u49 :: u50 :: u51 :: u52 :: u53 :: u54 :: u55 :: u56 :: u57 :: u58 :: u59 :: u60 :: u61 :: u62 :: u63 :: u64 :: u65 :: u66 :: u67 :: u68 :: u69 :: u70 :: u71 :: u72 :: u73 :: u74 :: u75 :: u76 :: u77 :: u78 :: u79 :: u80 :: u81 :: u82 :: u83 :: u84 :: u85 :: u86 :: u87 :: u88 :: u89 :: u90 :: u91 :: u92 :: u93 :: u94 :: u95 :: u96 :: u97 :: u98 :: u99 :: u100 :: u101 :: u102 :: u103 :: u104 :: u105 :: u106 :: u107 :: u108 :: u109 :: u110 :: u111 :: u112 :: u113 :: u114 :: u115 :: u116 :: u117 :: u118 :: u119 :: u120 :: u121 :: u122 :: u123 :: u124 :: u125 :: u126 :: u127 :: u128 :: u129 :: u130 :: u131 :: u132 :: u133 :: u134 :: u135 :: u136 :: u137 :: u138 :: u139 :: u140 :: u141 :: u142 :: u143 :: u144 :: u145 :: u146 :: u147 :: u148 :: u149 :: u150 :: u151 :: u152 :: u153 :: u154 :: u155 :: u156 :: u157 :: u158 :: u159 :: u160 :: u161 :: u162 :: u163 :: u164 :: u165 :: u166 :: u167 :: u168 :: u169 :: u170 :: u171 :: u172 :: u173 :: u174 :: u175 :: u176 :: u177 :: u178 :: u179 :: u180 :: u181 :: u182 :: u183 :: u184 :: u185 :: u186 :: u187 :: u188 :: u189 :: u190 :: u191 :: u192 :: u193 :: u194 :: u195 :: u196 :: u197 :: u198 :: u199 :: u200 :: u201 :: u202 :: u203 :: u204 :: u205 :: u206 :: u207 :: []), []⟩ W := by
  obtain ⟨X0, X1, X2, X3, X4⟩ := hX
  obtain ⟨Y0, Y1, Y2, Y3, Y4⟩ := hY
  simp only [Nat.zero_add] at X0 X1 X2 X3 X4 Y0 Y1 Y2 Y3 Y4
  replace hr := Lib.hid hr
  conv => arg 2; whnf
  go_upto_region 10 with (fail)
  go_cut [9, 78] (fun l0 v wx => l0 = .bool s2 ∧  v = .bool (s2 && y0 == 8) ∧ W = wx)
  case first =>
    go_wp2
    all_goals (go_meet; exact ⟨(by first | rfl | simp [*]), (by first | rfl | simp [*]), rfl⟩)
  case rest =>
    obtain ⟨rfl, hv, rfl⟩ := hcut
    rename_i K2 hK2 K1 hK1
    cases hC6 : (s2 && y0 == 8) with
    | true =>
      rw [hC6] at hv; subst hv; replace hC6 := Lib.hid hC6
      refine hK1 _ _ (wp_cond_true rfl (wp_block ?_))
      exact rule_m0 (r := r) (w := w) (set := set) (s1 := s1) (s2 := s2) (s4 := s4) hbW ⟨X0, X1, X2, X3, X4⟩ ⟨Y0, Y1, Y2, Y3, Y4⟩ hK2 (by rw [hr.out]; simp only [hC6.out]; simp)
    | false =>
      rw [hC6] at hv; subst hv; replace hC6 := Lib.hid hC6
      refine hK1 _ _ (wp_cond_false rfl (wp_skip (hK2 _ _ ?_)))
      exact rule_dead (r := r) (w := w) (set := set) (s1 := s1) (s2 := s2) (s4 := s4) hbW ⟨X0, X1, X2, X3, X4⟩ ⟨Y0, Y1, Y2, Y3, Y4⟩ (by rw [hr.out]; simp only [hC6.out]; simp)

set_option maxRecDepth 1000000 in
set_option maxHeartbeats 4000000 in
theorem rule_rens {u0 u1 u5 u11 u12 u13 u14 u15 u16 u17 u18 u19 u20 u21 u22 u23 u24 u25 u26 u27 u28 u29 u30 u31 u32 u33 u34 u35 u36 u37 u38 u39 u40 u41 u42 u43 u44 u45 u46 u47 u48 u49 u50 u51 u52 u53 u54 u55 u56 u57 u58 u59 u60 u61 u62 u63 u64 u65 u66 u67 u68 u69 u70 u71 u72 u73 u74 u75 u76 u77 u78 u79 u80 u81 u82 u83 u84 u85 u86 u87 u88 u89 u90 u91 u92 u93 u94 u95 u96 u97 u98 u99 u100 u101 u102 u103 u104 u105 u106 u107 u108 u109 u110 u111 u112 u113 u114 u115 u116 u117 u118 u119 u120 u121 u122 u123 u124 u125 u126 u127 u128 u129 u130 u131 u132 u133 u134 u135 u136 u137 u138 u139 u140 u141 u142 u143 u144 u145 u146 u147 u148 u149 u150 u151 u152 u153 u154 u155 u156 u157 u158 u159 u160 u161 u162 u163 u164 u165 u166 u167 u168 u169 u170 u171 u172 u173 u174 u175 u176 u177 u178 u179 u180 u181 u182 u183 u184 u185 u186 u187 u188 u189 u190 u191 u192 u193 u194 u195 u196 u197 u198 u199 u200 u201 u202 u203 u204 u205 u206 u207 : Value} {set : Int} {s1 s2 s4 : Bool} {w W : World} {x0 x3 x4 y0 y3 y4 : Int} {x1 x2 y1 y2 : ByteArray} {r : Option (List Ins)} (hbW : Below w.heap.size w W) (hX : Ins.at ⟨x0, x1, x2, x3, x4⟩ W w.heap.size 0) (hY : Ins.at ⟨y0, y1, y2, y3, y4⟩ W (w.heap.size + 1) 0) (hr : r = (if (s1 && (x0 == 3 && (y0 == 3 && (x2.toList == y1.toList)))) = true then (if (x1.toList == y2.toList) = true then some [] else some [⟨3, x1, y2, 0, 0⟩]) else (if (s2 && y0 == 8) = true ∧ (x0 == 1 && (x1.toList == y1.toList)) = true then some [⟨1, x1, ByteArray.empty, y3, 0⟩] else if (s2 && y0 == 8) = true ∧ (x0 == 6 && (x1.toList == y1.toList)) = true then some [⟨6, x1, ByteArray.empty, y3, x4⟩] else if (s2 && y0 == 8) = true ∧ (x0 == 7 && (x2.toList == y1.toList)) = true then some [⟨7, x1, x2, y3, 0⟩] else if (s2 && y0 == 8) = true ∧ (x0 == 8 && (x1.toList == y1.toList)) = true then some [⟨8, x1, ByteArray.empty, y3, 0⟩] else (if (s4 && ((x0 == 1 && (y0 == 2 && (x1.toList == y1.toList))) || ((x0 == 6 && (y0 == 5 && (x1.toList == y1.toList))) || ((x0 == 7 || x0 == 4) && (y0 == 5 && (x2.toList == y1.toList)))))) = true then some [] else none : Option (List Ins))))) : (tailOf 5 (Try.f19.body.getD .skip)).wp Try.prog (bodyPost Try.prog Try.f19 (RuleRes r w)) ⟨List.toArray (u0 :: u1 :: .int .i64 set :: .pointer (some ⟨w.heap.size, 0, none⟩) :: .pointer (some ⟨w.heap.size + 1, 0, none⟩) :: u5 :: .slice none 0 0 :: .bool false :: .bool s1 :: .bool s2 :: .bool s4 :: u11 :: u12 :: u13 :: u14 :: u15 :: u16 :: u17 :: u18 :: u19 :: u20 :: u21 :: u22 :: u23 :: u24 :: u25 :: u26 :: u27 :: u28 :: u29 :: u30 :: u31 :: u32 :: u33 :: u34 :: u35 :: u36 :: u37 :: u38 :: u39 :: u40 :: u41 :: u42 :: u43 :: u44 :: u45 :: u46 :: u47 :: u48 :: u49 :: u50 :: u51 :: u52 :: u53 :: u54 :: u55 :: u56 :: u57 :: u58 :: u59 :: u60 :: u61 :: u62 :: u63 :: u64 :: u65 :: u66 :: u67 :: u68 :: u69 :: u70 :: u71 :: u72 :: u73 :: u74 :: u75 :: u76 :: u77 :: u78 :: u79 :: u80 :: u81 :: u82 :: u83 :: u84 :: u85 :: u86 :: u87 :: u88 :: u89 :: u90 :: u91 :: u92 :: u93 :: u94 :: u95 :: u96 :: u97 :: u98 :: u99 :: u100 :: u101 :: u102 :: u103 :: u104 :: u105 :: u106 :: u107 :: u108 :: u109 :: u110 :: u111 :: u112 :: u113 :: u114 :: u115 :: u116 :: u117 :: u118 :: u119 :: u120 :: u121 :: u122 :: u123 :: u124 :: u125 :: u126 :: u127 :: u128 :: u129 :: u130 :: u131 :: u132 :: u133 :: u134 :: u135 :: u136 :: u137 :: u138 :: u139 :: u140 :: u141 :: u142 :: u143 :: u144 :: u145 :: u146 :: u147 :: u148 :: u149 :: u150 :: u151 :: u152 :: u153 :: u154 :: u155 :: u156 :: u157 :: u158 :: u159 :: u160 :: u161 :: u162 :: u163 :: u164 :: u165 :: u166 :: u167 :: u168 :: u169 :: u170 :: u171 :: u172 :: u173 :: u174 :: u175 :: u176 :: u177 :: u178 :: u179 :: u180 :: u181 :: u182 :: u183 :: u184 :: u185 :: u186 :: u187 :: u188 :: u189 :: u190 :: u191 :: u192 :: u193 :: u194 :: u195 :: u196 :: u197 :: u198 :: u199 :: u200 :: u201 :: u202 :: u203 :: u204 :: u205 :: u206 :: u207 :: []), []⟩ W := by
  obtain ⟨X0, X1, X2, X3, X4⟩ := hX
  obtain ⟨Y0, Y1, Y2, Y3, Y4⟩ := hY
  simp only [Nat.zero_add] at X0 X1 X2 X3 X4 Y0 Y1 Y2 Y3 Y4
  replace hr := Lib.hid hr
  conv => arg 2; whnf
  go_upto_region 6 with (fail)
  go_cut [8, 61] (fun l0 v wx => l0 = .bool s1 ∧  v = .bool (s1 && (x0 == 3 && (y0 == 3 && (x2.toList == y1.toList)))) ∧ W = wx)
  case first =>
    go_wp2
    all_goals (go_meet; exact ⟨(by first | rfl | simp [*]), (by first | rfl | simp [*]), rfl⟩)
  case rest =>
    obtain ⟨rfl, hv, rfl⟩ := hcut
    rename_i K2 hK2 K1 hK1
    cases hC7 : (s1 && (x0 == 3 && (y0 == 3 && (x2.toList == y1.toList)))) with
    | true =>
      rw [hC7] at hv; subst hv; replace hC7 := Lib.hid hC7
      cases hQ : (x1.toList == y2.toList) with
      | true =>
        have hq := Lib.hid hQ
        have hfin : r = some [] := by rw [hr.out]; simp [hC7.out, hq.out]
        replace hfin := Lib.hid hfin
        go_wp2
        go_ret2
        rw [hfin.out]
        exact rr_mk_nil hbW
      | false =>
        have hq := Lib.hid hQ
        have hfin : r = some [⟨3, x1, y2, 0, 0⟩] := by rw [hr.out]; simp [hC7.out, hq.out]
        replace hfin := Lib.hid hfin
        go_wp2
        go_ret2
        rw [hfin.out]
        exact rr_mk_one ⟨3, x1, y2, 0, 0⟩ hbW
    | false =>
      rw [hC7] at hv; subst hv; replace hC7 := Lib.hid hC7
      refine hK1 _ _ (wp_cond_false rfl (wp_skip (hK2 _ _ ?_)))
      exact rule_modes (r := r) (w := w) (set := set) (s1 := s1) (s2 := s2) (s4 := s4) hbW ⟨X0, X1, X2, X3, X4⟩ ⟨Y0, Y1, Y2, Y3, Y4⟩ (by rw [hr.out]; simp only [hC7.out]; simp)

set_option maxRecDepth 1000000 in
set_option maxHeartbeats 4000000 in
theorem rule_any (x y : Ins) (set : Int) (w : World) :
    Calls Try.prog 19 #[.agg x.cells, .agg y.cells, .int .i64 set] w (RuleRes (fuse x y set) w) := by
  have hR := ref_fuse x y set
  obtain ⟨s1, h1⟩ : ∃ s1, (bits .and .i64 set 1 != 0) = s1 := ⟨_, rfl⟩
  obtain ⟨s2, h2⟩ : ∃ s2, (bits .and .i64 set 2 != 0) = s2 := ⟨_, rfl⟩
  obtain ⟨s4, h4⟩ : ∃ s4, (bits .and .i64 set 4 != 0) = s4 := ⟨_, rfl⟩
  rw [h1, h2, h4] at hR
  obtain ⟨x0, x1, x2, x3, x4⟩ := x
  obtain ⟨y0, y1, y2, y3, y4⟩ := y
  rw [← hR]
  clear hR
  obtain ⟨r, hr⟩ : ∃ r, refRule ⟨x0, x1, x2, x3, x4⟩ ⟨y0, y1, y2, y3, y4⟩ s1 s2 s4 = r := ⟨_, rfl⟩
  rw [hr]
  replace hr : r = (if (s1 && (x0 == 4 && (y0 == 5 && (x1.toList == y1.toList)))) = true then some [⟨3, x1, x2, 0, 0⟩] else (if (s1 && (x0 == 3 && (y0 == 3 && (x2.toList == y1.toList)))) = true then (if (x1.toList == y2.toList) = true then some [] else some [⟨3, x1, y2, 0, 0⟩]) else (if (s2 && y0 == 8) = true ∧ (x0 == 1 && (x1.toList == y1.toList)) = true then some [⟨1, x1, ByteArray.empty, y3, 0⟩] else if (s2 && y0 == 8) = true ∧ (x0 == 6 && (x1.toList == y1.toList)) = true then some [⟨6, x1, ByteArray.empty, y3, x4⟩] else if (s2 && y0 == 8) = true ∧ (x0 == 7 && (x2.toList == y1.toList)) = true then some [⟨7, x1, x2, y3, 0⟩] else if (s2 && y0 == 8) = true ∧ (x0 == 8 && (x1.toList == y1.toList)) = true then some [⟨8, x1, ByteArray.empty, y3, 0⟩] else (if (s4 && ((x0 == 1 && (y0 == 2 && (x1.toList == y1.toList))) || ((x0 == 6 && (y0 == 5 && (x1.toList == y1.toList))) || ((x0 == 7 || x0 == 4) && (y0 == 5 && (x2.toList == y1.toList)))))) = true then some [] else none : Option (List Ins))))) := by rw [← hr]; rfl
  replace hr := Lib.hid hr
  unfold Ins.cells
  go_enter Try.func19, Try.ntmps19
  go_upto_region 4 with (fail)
  obtain ⟨W, hW⟩ : ∃ W, W = ((w.alloc (.cells #[.int .i64 x0, .string x1, .string x2, .int .i64 x3, .int .i64 x4] 26)).alloc (.cells #[.int .i64 y0, .string y1, .string y2, .int .i64 y3, .int .i64 y4] 26)) := ⟨_, rfl⟩
  have hbW : Below w.heap.size w W := by rw [hW]; exact ((Below.refl _ _).alloc (Nat.le_refl _) _).alloc (by simp) _
  have hX : Blk W w.heap.size 26 (Ins.cells ⟨x0, x1, x2, x3, x4⟩) := by rw [hW]; exact (Blk.new w _ _).alloc _
  have hY : Blk W (w.heap.size + 1) 26 (Ins.cells ⟨y0, y1, y2, y3, y4⟩) := by rw [hW]; have := Blk.new (w.alloc (.cells #[.int .i64 x0, .string x1, .string x2, .int .i64 x3, .int .i64 x4] 26)) 26 (Ins.cells ⟨y0, y1, y2, y3, y4⟩); rwa [World.size_alloc] at this
  rw [← hW]
  clear hW h1 h2 h4
  obtain ⟨X0, X1, X2, X3, X4⟩ := hX.ins
  obtain ⟨Y0, Y1, Y2, Y3, Y4⟩ := hY.ins
  clear hX hY
  go_cut [0, 1, 8, 37] (fun _ _ l0 v wx => l0 = .bool s1 ∧  v = .bool (s1 && (x0 == 4 && (y0 == 5 && (x1.toList == y1.toList)))) ∧ W = wx)
  case first =>
    go_wp2
    all_goals (go_meet; exact ⟨(by first | rfl | simp [*]), (by first | rfl | simp [*]), rfl⟩)
  case rest =>
    obtain ⟨rfl, hv, rfl⟩ := hcut
    rename_i K2 hK2 K1 hK1
    cases hC8 : (s1 && (x0 == 4 && (y0 == 5 && (x1.toList == y1.toList)))) with
    | true =>
      rw [hC8] at hv; subst hv; replace hC8 := Lib.hid hC8
      have hfin : r = some [⟨3, x1, x2, 0, 0⟩] := by rw [hr.out]; simp [hC8.out]
      replace hfin := Lib.hid hfin
      go_wp2
      go_ret2
      rw [hfin.out]
      exact rr_mk_one ⟨3, x1, x2, 0, 0⟩ hbW
    | false =>
      rw [hC8] at hv; subst hv; replace hC8 := Lib.hid hC8
      refine hK1 _ _ (wp_cond_false rfl (wp_skip (hK2 _ _ ?_)))
      exact rule_rens (r := r) (w := w) (set := set) (s1 := s1) (s2 := s2) (s4 := s4) hbW ⟨X0, X1, X2, X3, X4⟩ ⟨Y0, Y1, Y2, Y3, Y4⟩ (by rw [hr.out]; simp only [hC8.out]; simp)
end Go.Proofs.Ytbpgakghdpflnaa
