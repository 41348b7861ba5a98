/- AgreeM. -/
import Derived.Test.YtbnjhfkmdejeaaaMg9
set_option linter.unnecessarySimpa false

/- The middle part of the walk of SafetyAgrees: the line, the blocks, the votes. -/
set_option linter.unusedSimpArgs false
set_option linter.unusedVariables false
namespace Go.Proofs.Ytbnjhfkmdejeaaa
open Go.RowKit Pl

set_option maxRecDepth 100000 in
set_option maxHeartbeats 40000000 in
theorem agree_mid (l : List (Bs × Int)) (bad : List Bs) (bl vt : List (Int × Int)) (w : World) (ma : Option Addr) (mc : Nat) (ba : Option Addr) (bc : Nat) (la : Option Addr) (lc : Nat) (va : Option Addr) (vc : Nat) (hsb : bad.length ≤ 9223372036854775807) (hsl : bl.length ≤ 9223372036854775807) (hsv : vt.length ≤ 9223372036854775807) (hsm : l.length ≤ 9223372036854775807) (HBN : Hid (∀ (i : Nat), i < bad.length → List.length (bad.getD i []) ≤ maxLen)) (hcl : l.length ≠ 0 ∧ l.length ≤ 7) (HC : Hid (chkM l = true)) (h20 : ¬20 < bad.length) (h30 : ¬30 < bl.length) (HXY : Hid (ofM l bad ≤ mostM l)) (h300 : ¬300 < vt.length) (HM : Hid (MS w (.slice ma l.length mc) l)) (HB : Hid (SS w (.slice ba bad.length bc) bad)) (HL : Hid (PS w (.slice la bl.length lc) bl)) (HV : Hid (PS w (.slice va vt.length vc) vt)) (HBLB : Hid (∀ (i : Nat), I64 (bl.getD i (0, 0)).snd)) (w3 : World) (hb3 : Below w.heap.size w w3) (B3 : Blk w3 w.heap.size #[.slice ma l.length mc, .slice ba bad.length bc, .slice la bl.length lc, .slice va vt.length vc])
    {u0 u2 u3 u4 u5 u6 u7 u8 u9 u10 u11 u12 u13 u14 u15 u16 u17 u18 u19 u20 u21 u22 u23 u24 u25 u26 u27 u28 u29 u30 u31 u32 u33 u34 u35 u36 u37 u38 u39 u40 u41 u42 u43 u44 u45 u46 u47 u48 u49 u50 u51 u52 u53 u54 u55 u56 u57 u58 u59 u60 u61 u62 u63 u64 u65 u66 u67 u68 u69 u70 u71 u72 u73 u74 u75 u76 u77 u78 u79 u80 u81 u82 u83 u84 u85 u86 u87 u88 u89 u90 u91 u92 u93 u94 u95 u96 u97 u98 u99 u100 u101 u102 u103 u104 u105 u106 u107 u108 u109 u110 u111 u112 u113 u114 u115 u116 u117 u118 u119 u120 u121 u122 u123 u124 u125 u126 u127 u128 u129 u130 u131 u132 u133 u134 u135 u136 u137 u138 u139 u140 u141 u142 u143 u144 u145 u146 u147 u148 u149 u150 u151 u152 u153 u154 u155 u156 u157 u158 u159 u160 u161 u162 u163 u164 u165 u166 u167 u168 u169 u170 u171 u172 u173 u174 u175 u176 u177 u178 u179 u180 u181 u182 u183 u184 u185 u186 u187 u188 u189 u190 u191 u192 u193 u194 u195 u196 u197 u198 u199 u200 u201 u202 u203 u204 u205 u206 u207 u208 u209 u210 u211 u212 u213 u214 u215 u216 u217 u218 u219 u220 u221 u222 u223 u224 u225 u226 u227 u228 u229 u230 u231 u232 u233 u234 u235 u236 u237 u238 u239 u240 : Value} {K : Act → World → Prop} (hK : ∀ a w', (cR (cR (cR (cR (Try.f3.body.getD .skip))))).wp Try.prog (bodyPost Try.prog Try.f3 fun e w' => e = .returned (.bool true) ∧ Below w.heap.size w w') a w' → K a w') :
    Code.wp Try.prog (cL (cR (cR (cR (Try.f3.body.getD .skip))))) (Exit.then K (bodyPost Try.prog Try.f3 fun e w' => e = .returned (.bool true) ∧ Below w.heap.size w w')) { tmps := #[u0, .pointer (some ⟨w.heap.size, 0, none⟩), u2, u3, u4, u5, u6, u7, u8, u9, u10, u11, u12, u13, u14, u15, u16, u17, u18, u19, u20, u21, u22, u23, u24, u25, u26, u27, u28, u29, u30, u31, u32, u33, u34, u35, u36, u37, u38, u39, u40, u41, u42, u43, u44, u45, u46, u47, u48, u49, u50, u51, u52, u53, u54, u55, u56, u57, u58, u59, u60, u61, u62, u63, u64, u65, u66, u67, u68, u69, u70, u71, u72, u73, u74, u75, u76, u77, u78, u79, u80, u81, u82, u83, u84, u85, u86, u87, u88, u89, u90, u91, u92, u93, u94, u95, u96, u97, u98, u99, u100, u101, u102, u103, u104, u105, u106, u107, u108, u109, u110, u111, u112, u113, u114, u115, u116, u117, u118, u119, u120, u121, u122, u123, u124, u125, u126, u127, u128, u129, u130, u131, u132, u133, u134, u135, u136, u137, u138, u139, u140, u141, u142, u143, u144, u145, u146, u147, u148, u149, u150, u151, u152, u153, u154, u155, u156, u157, u158, u159, u160, u161, u162, u163, u164, u165, u166, u167, u168, u169, u170, u171, u172, u173, u174, u175, u176, u177, u178, u179, u180, u181, u182, u183, u184, u185, u186, u187, u188, u189, u190, u191, u192, u193, u194, u195, u196, u197, u198, u199, u200, u201, u202, u203, u204, u205, u206, u207, u208, u209, u210, u211, u212, u213, u214, u215, u216, u217, u218, u219, u220, u221, u222, u223, u224, u225, u226, u227, u228, u229, u230, u231, u232, u233, u234, u235, u236, u237, u238, u239, u240], defers := [] } w3 := by
  dsimp only [cL, cR, Try.f3, Option.getD] at hK ⊢
  have hmk : ∀ W, (Instr.makeSlice 35 (.int .i64 ((l.length : Int))) (.int .i64 ((l.length : Int)))).run Try.prog W = .ok (.slice (some ⟨W.heap.size, 0, none⟩) l.length l.length) (W.alloc (.cells (madeCells #[.int .i64 (0), .int .i64 (0)] (l.length * 2)) 49)) := by
    intro W
    obtain ⟨i0, hi, hz0, hz1, hz2⟩ := info_parts infoRul
    have := run_make (P := Try.prog) W 35 49 i0 _ Try.underlying35 hi hz0 .i64 .i64 (l.length : Int) (l.length : Int) (by omega) (by omega) (by rw [hz2]; omega) (by omega)
    rw [hz1] at this
    simpa [Value.cells] using this
  refine wp_region_ex (ι := LI)
    (fun i a => ((((((((((((a.put (some 53) (.pointer (some ⟨w.heap.size, 0, none⟩))).put (some 54) (.slice ma l.length mc)).put (some 55) (.slice (some ⟨i.a, 0, none⟩) 1 1)).put (some 56) (.slice (some ⟨i.b, 0, none⟩) 1 1)).put (some 57) (.slice (some ⟨i.c, 0, none⟩) 1 1)).put (some 58) (.pointer (some ⟨w.heap.size, 0, none⟩))).put (some 59) (.slice ma l.length mc)).put (some 60) (.int .i64 ((l.length : Int)))).put (some 61) (.slice (some ⟨i.d, 0, none⟩) l.length l.length)).put (some 62) (.agg #[.slice ma l.length mc, .slice (some ⟨i.a, 0, none⟩) 1 1, .slice (some ⟨i.b, 0, none⟩) 1 1, .slice (some ⟨i.c, 0, none⟩) 1 1, .slice (some ⟨i.d, 0, none⟩) l.length l.length])).put (some 63) (.pointer (some ⟨i.p, 0, none⟩))).put (some 3) (.pointer (some ⟨i.p, 0, none⟩))))
    (fun i w' => LB w3.heap.size l.length w3 (some i.a) (some i.b) (some i.c) (some i.d) w' ∧ w3.heap.size ≤ i.p ∧ Blk w' i.p #[.slice ma l.length mc, .slice (some ⟨i.a, 0, none⟩) 1 1, .slice (some ⟨i.b, 0, none⟩) 1 1, .slice (some ⟨i.c, 0, none⟩) 1 1, .slice (some ⟨i.d, 0, none⟩) l.length l.length] ∧ i.a ≠ i.p ∧ i.b ≠ i.p ∧ i.c ≠ i.p ∧ i.d ≠ i.p) ?_ ?_
  ·
    as_aux_lemma =>
      skip
      refine wpH_startB (w3.heap.size) (by kernel_rfl) (fun hS => ?_)
      have hA := LB.start (n := l.length) hS
      (refine wpH_pure 0 ?_ (oi := { dst := some 53, op := Op.fieldAddr 26 (Operand.tmp 1) 0, type := 0, pos := "theorems.go:104", after := #[], guard := none }) rfl (by kernel_rfl) (by kernel_rfl) (by kernel_rfl) (by rfl) hS (fun _ _ _ h => h) ?_ ?_; rotate_left; focus (intro w; go_simp; try with_reducible rfl))
      try simp only [Act.put, List.setIfInBounds_toArray, List.set_cons_zero, List.set_cons_succ]
      refine wpH_load 1 (.slice ma l.length mc) (oi := { dst := some 54, op := Op.load 22 (Operand.tmp 53), type := 22, pos := "theorems.go:104", after := #[{ on := 0, ground := Ground.data }], guard := none }) rfl (by kernel_rfl) (by kernel_rfl) (by kernel_rfl) (by rfl) hS (fun _ _ _ h => h) (fun w hb4 => (by have c := (B3.keep hb4).cell 0; go_simp; try rfl)) ?_
      try simp only [Act.put, List.setIfInBounds_toArray, List.set_cons_zero, List.set_cons_succ]
      (refine wpH_pure 5 ?_ (oi := { dst := some 58, op := Op.fieldAddr 26 (Operand.tmp 1) 0, type := 0, pos := "theorems.go:104", after := #[], guard := none }) rfl (by kernel_rfl) (by kernel_rfl) (by kernel_rfl) (by rfl) hS (fun _ _ _ h => h) ?_ ?_; rotate_left; focus (intro w; go_simp; try with_reducible rfl))
      try simp only [Act.put, List.setIfInBounds_toArray, List.set_cons_zero, List.set_cons_succ]
      refine wpH_load 6 (.slice ma l.length mc) (oi := { dst := some 59, op := Op.load 22 (Operand.tmp 58), type := 22, pos := "theorems.go:104", after := #[{ on := 5, ground := Ground.data }], guard := none }) rfl (by kernel_rfl) (by kernel_rfl) (by kernel_rfl) (by rfl) hS (fun _ _ _ h => h) (fun w hb4 => (by have c := (B3.keep hb4).cell 0; go_simp; try rfl)) ?_
      try simp only [Act.put, List.setIfInBounds_toArray, List.set_cons_zero, List.set_cons_succ]
      (refine wpH_pure 7 ?_ (oi := { dst := some 60, op := Op.call { callee := Callee.builtin Builtin.len, args := #[Operand.tmp 59], argTypes := #[22] }, type := 3, pos := "theorems.go:104", after := #[{ on := 6, ground := Ground.data }], guard := none }) rfl (by kernel_rfl) (by kernel_rfl) (by kernel_rfl) (by rfl) hS (fun _ _ _ h => h) ?_ ?_; rotate_left; focus (intro w; go_simp; try with_reducible rfl))
      try simp only [Act.put, List.setIfInBounds_toArray, List.set_cons_zero, List.set_cons_succ]
      refine wpAnyH_all (rs := [2, 3, 4, 8]) (by kernel_rfl) (by simp) (fun jj hjj => ?_)
      simp only [List.mem_cons, List.not_mem_nil, or_false] at hjj
      rcases hjj with rfl | rfl | rfl | rfl
      refine wpO_op (oi := { dst := some 55, op := Op.buildSlice 33 1 #[(0, Operand.const (Value.int IntKind.i64 0))], type := 33, pos := "theorems.go:104", after := #[], guard := none }) rfl (by rfl) ?_
      refine wp_newK 3 #[.int .i64 (0)] (fun k => .slice (some ⟨k, 0, none⟩) 1 1) (fun w => by go_simp; try rfl) (fun k55 w' hk hh hlt hbk => ?_)
      replace hA := hA.mkA hA.below.size hk hh hlt hbk
      clear hk hh hlt hbk
      refine hold_and hA.below (fun hS => ?_)
      try simp only [Act.put, List.setIfInBounds_toArray, List.set_cons_zero, List.set_cons_succ]
      refine wpAnyH_all (rs := [3, 4, 8]) (by kernel_rfl) (by simp) (fun jj hjj => ?_)
      simp only [List.mem_cons, List.not_mem_nil, or_false] at hjj
      rcases hjj with rfl | rfl | rfl
      refine wpO_op (oi := { dst := some 56, op := Op.buildSlice 33 1 #[(0, Operand.const (Value.int IntKind.i64 0))], type := 33, pos := "theorems.go:104", after := #[], guard := none }) rfl (by rfl) ?_
      refine wp_newK 3 #[.int .i64 (0)] (fun k => .slice (some ⟨k, 0, none⟩) 1 1) (fun w => by go_simp; try rfl) (fun k56 w' hk hh hlt hbk => ?_)
      replace hA := hA.mkB hA.below.size hk hh hlt hbk
      clear hk hh hlt hbk
      refine hold_and hA.below (fun hS => ?_)
      try simp only [Act.put, List.setIfInBounds_toArray, List.set_cons_zero, List.set_cons_succ]
      refine wpAnyH_all (rs := [4, 8]) (by kernel_rfl) (by simp) (fun jj hjj => ?_)
      simp only [List.mem_cons, List.not_mem_nil, or_false] at hjj
      rcases hjj with rfl | rfl
      refine wpO_op (oi := { dst := some 57, op := Op.buildSlice 34 1 #[(0, Operand.const (Value.slice none 0 0))], type := 34, pos := "theorems.go:104", after := #[], guard := none }) rfl (by rfl) ?_
      refine wp_newK 23 #[nilS] (fun k => .slice (some ⟨k, 0, none⟩) 1 1) (fun w => by go_simp; try rfl) (fun k57 w' hk hh hlt hbk => ?_)
      replace hA := hA.mkC hA.below.size hk hh hlt hbk
      clear hk hh hlt hbk
      refine hold_and hA.below (fun hS => ?_)
      try simp only [Act.put, List.setIfInBounds_toArray, List.set_cons_zero, List.set_cons_succ]
      refine wpH_op 8 (oi := { dst := some 61, op := Op.makeSlice 35 (Operand.tmp 60) (Operand.tmp 60), type := 35, pos := "theorems.go:104", after := #[{ on := 7, ground := Ground.data }, { on := 7, ground := Ground.data }], guard := none }) rfl (by kernel_rfl) (by rfl) ?_
      refine wp_newK 49 (madeCells #[.int .i64 (0), .int .i64 (0)] (l.length * 2)) (fun k => .slice (some ⟨k, 0, none⟩) l.length l.length) (fun w => by go_simp; try rfl) (fun k61 w' hk hh hlt hbk => ?_)
      replace hA := hA.mkD hA.below.size (by omega) hk hh hlt hbk
      clear hk hh hlt hbk
      refine hold_and hA.below (fun hS => ?_)
      try simp only [Act.put, List.setIfInBounds_toArray, List.set_cons_zero, List.set_cons_succ]
      (refine wpH_pure 9 ?_ (oi := { dst := some 62, op := Op.build 37 #[(0, Operand.tmp 54), (1, Operand.tmp 55), (2, Operand.tmp 56), (3, Operand.tmp 57), (4, Operand.tmp 61)], type := 37, pos := "theorems.go:104", after := #[{ on := 1, ground := Ground.data }, { on := 2, ground := Ground.data }, { on := 3, ground := Ground.data }, { on := 4, ground := Ground.data }, { on := 8, ground := Ground.data }], guard := none }) rfl (by kernel_rfl) (by kernel_rfl) (by kernel_rfl) (by rfl) hS (fun _ _ _ h => h) ?_ ?_; rotate_left; focus (intro w; go_simp; try with_reducible rfl))
      try simp only [Act.put, List.setIfInBounds_toArray, List.set_cons_zero, List.set_cons_succ]
      refine wpH_op 10 (oi := { dst := some 63, op := Op.box 37 (Operand.tmp 62), type := 32, pos := "theorems.go:104", after := #[{ on := 9, ground := Ground.data }], guard := none }) rfl (by kernel_rfl) (by rfl) ?_
      refine wp_newK 37 #[.slice ma l.length mc, .slice (some ⟨k55, 0, none⟩) 1 1, .slice (some ⟨k56, 0, none⟩) 1 1, .slice (some ⟨k57, 0, none⟩) 1 1, .slice (some ⟨k61, 0, none⟩) l.length l.length] (fun k => .pointer (some ⟨k, 0, none⟩)) (fun w => by go_simp; try rfl) (fun k63 w' hk hh hlt hbk => ?_)
      have hp1 := Nat.le_trans hA.below.size hk
      have hp3 := Nat.ne_of_lt (Nat.lt_of_lt_of_le (hA.fa _ rfl).2.2 hk)
      have hp4 := Nat.ne_of_lt (Nat.lt_of_lt_of_le (hA.fb _ rfl).2.2 hk)
      have hp5 := Nat.ne_of_lt (Nat.lt_of_lt_of_le (hA.fc _ rfl).2.2 hk)
      have hp6 := Nat.ne_of_lt (Nat.lt_of_lt_of_le (hA.fd _ rfl).2.2 hk)
      have hp2 := Blk.of_heap hh hlt
      replace hA := hA.keep hA.below.size hbk
      refine hold_and hA.below (fun hS => ?_)
      try simp only [Act.put, List.setIfInBounds_toArray, List.set_cons_zero, List.set_cons_succ]
      (refine wpH_pure 11 ?_ (oi := { dst := some 3, op := Op.assign (Operand.tmp 63), type := 32, pos := "theorems.go:104", after := #[{ on := 10, ground := Ground.data }, { on := 0, ground := Ground.phase }, { on := 1, ground := Ground.phase }, { on := 2, ground := Ground.phase }, { on := 3, ground := Ground.phase }, { on := 4, ground := Ground.phase }, { on := 5, ground := Ground.phase }, { on := 6, ground := Ground.phase }, { on := 7, ground := Ground.phase }, { on := 8, ground := Ground.phase }, { on := 9, ground := Ground.phase }, { on := 10, ground := Ground.phase }], guard := none }) rfl (by kernel_rfl) (by kernel_rfl) (by kernel_rfl) (by rfl) hS (fun _ _ _ h => h) ?_ ?_; rotate_left; focus (intro w; go_simp; try with_reducible rfl))
      try simp only [Act.put, List.setIfInBounds_toArray, List.set_cons_zero, List.set_cons_succ]
      refine wpAnyH_done (by kernel_rfl) ?_ _
      unfold NormQ
      refine ⟨⟨_, _, _, _, _⟩, ?_, hA, hp1, hp2, hp3, hp4, hp5, hp6⟩
      (try simp only [Act.put, List.setIfInBounds_toArray, List.set_cons_zero, List.set_cons_succ])
      refine wpO_op (oi := { dst := some 61, op := Op.makeSlice 35 (Operand.tmp 60) (Operand.tmp 60), type := 35, pos := "theorems.go:104", after := #[{ on := 7, ground := Ground.data }, { on := 7, ground := Ground.data }], guard := none }) rfl (by rfl) ?_
      refine wp_newK 49 (madeCells #[.int .i64 (0), .int .i64 (0)] (l.length * 2)) (fun k => .slice (some ⟨k, 0, none⟩) l.length l.length) (fun w => by go_simp; try rfl) (fun k61 w' hk hh hlt hbk => ?_)
      replace hA := hA.mkD hA.below.size (by omega) hk hh hlt hbk
      clear hk hh hlt hbk
      refine hold_and hA.below (fun hS => ?_)
      try simp only [Act.put, List.setIfInBounds_toArray, List.set_cons_zero, List.set_cons_succ]
      refine wpH_op 4 (oi := { dst := some 57, op := Op.buildSlice 34 1 #[(0, Operand.const (Value.slice none 0 0))], type := 34, pos := "theorems.go:104", after := #[], guard := none }) rfl (by kernel_rfl) (by rfl) ?_
      refine wp_newK 23 #[nilS] (fun k => .slice (some ⟨k, 0, none⟩) 1 1) (fun w => by go_simp; try rfl) (fun k57 w' hk hh hlt hbk => ?_)
      replace hA := hA.mkC hA.below.size hk hh hlt hbk
      clear hk hh hlt hbk
      refine hold_and hA.below (fun hS => ?_)
      try simp only [Act.put, List.setIfInBounds_toArray, List.set_cons_zero, List.set_cons_succ]
      (refine wpH_pure 9 ?_ (oi := { dst := some 62, op := Op.build 37 #[(0, Operand.tmp 54), (1, Operand.tmp 55), (2, Operand.tmp 56), (3, Operand.tmp 57), (4, Operand.tmp 61)], type := 37, pos := "theorems.go:104", after := #[{ on := 1, ground := Ground.data }, { on := 2, ground := Ground.data }, { on := 3, ground := Ground.data }, { on := 4, ground := Ground.data }, { on := 8, ground := Ground.data }], guard := none }) rfl (by kernel_rfl) (by kernel_rfl) (by kernel_rfl) (by rfl) hS (fun _ _ _ h => h) ?_ ?_; rotate_left; focus (intro w; go_simp; try with_reducible rfl))
      try simp only [Act.put, List.setIfInBounds_toArray, List.set_cons_zero, List.set_cons_succ]
      refine wpH_op 10 (oi := { dst := some 63, op := Op.box 37 (Operand.tmp 62), type := 32, pos := "theorems.go:104", after := #[{ on := 9, ground := Ground.data }], guard := none }) rfl (by kernel_rfl) (by rfl) ?_
      refine wp_newK 37 #[.slice ma l.length mc, .slice (some ⟨k55, 0, none⟩) 1 1, .slice (some ⟨k56, 0, none⟩) 1 1, .slice (some ⟨k57, 0, none⟩) 1 1, .slice (some ⟨k61, 0, none⟩) l.length l.length] (fun k => .pointer (some ⟨k, 0, none⟩)) (fun w => by go_simp; try rfl) (fun k63 w' hk hh hlt hbk => ?_)
      have hp1 := Nat.le_trans hA.below.size hk
      have hp3 := Nat.ne_of_lt (Nat.lt_of_lt_of_le (hA.fa _ rfl).2.2 hk)
      have hp4 := Nat.ne_of_lt (Nat.lt_of_lt_of_le (hA.fb _ rfl).2.2 hk)
      have hp5 := Nat.ne_of_lt (Nat.lt_of_lt_of_le (hA.fc _ rfl).2.2 hk)
      have hp6 := Nat.ne_of_lt (Nat.lt_of_lt_of_le (hA.fd _ rfl).2.2 hk)
      have hp2 := Blk.of_heap hh hlt
      replace hA := hA.keep hA.below.size hbk
      refine hold_and hA.below (fun hS => ?_)
      try simp only [Act.put, List.setIfInBounds_toArray, List.set_cons_zero, List.set_cons_succ]
      (refine wpH_pure 11 ?_ (oi := { dst := some 3, op := Op.assign (Operand.tmp 63), type := 32, pos := "theorems.go:104", after := #[{ on := 10, ground := Ground.data }, { on := 0, ground := Ground.phase }, { on := 1, ground := Ground.phase }, { on := 2, ground := Ground.phase }, { on := 3, ground := Ground.phase }, { on := 4, ground := Ground.phase }, { on := 5, ground := Ground.phase }, { on := 6, ground := Ground.phase }, { on := 7, ground := Ground.phase }, { on := 8, ground := Ground.phase }, { on := 9, ground := Ground.phase }, { on := 10, ground := Ground.phase }], guard := none }) rfl (by kernel_rfl) (by kernel_rfl) (by kernel_rfl) (by rfl) hS (fun _ _ _ h => h) ?_ ?_; rotate_left; focus (intro w; go_simp; try with_reducible rfl))
      try simp only [Act.put, List.setIfInBounds_toArray, List.set_cons_zero, List.set_cons_succ]
      refine wpAnyH_done (by kernel_rfl) ?_ _
      unfold NormQ
      refine ⟨⟨_, _, _, _, _⟩, ?_, hA, hp1, hp2, hp3, hp4, hp5, hp6⟩
      (try simp only [Act.put, List.setIfInBounds_toArray, List.set_cons_zero, List.set_cons_succ])
      refine wpO_op (oi := { dst := some 57, op := Op.buildSlice 34 1 #[(0, Operand.const (Value.slice none 0 0))], type := 34, pos := "theorems.go:104", after := #[], guard := none }) rfl (by rfl) ?_
      refine wp_newK 23 #[nilS] (fun k => .slice (some ⟨k, 0, none⟩) 1 1) (fun w => by go_simp; try rfl) (fun k57 w' hk hh hlt hbk => ?_)
      replace hA := hA.mkC hA.below.size hk hh hlt hbk
      clear hk hh hlt hbk
      refine hold_and hA.below (fun hS => ?_)
      try simp only [Act.put, List.setIfInBounds_toArray, List.set_cons_zero, List.set_cons_succ]
      refine wpAnyH_all (rs := [3, 8]) (by kernel_rfl) (by simp) (fun jj hjj => ?_)
      simp only [List.mem_cons, List.not_mem_nil, or_false] at hjj
      rcases hjj with rfl | rfl
      refine wpO_op (oi := { dst := some 56, op := Op.buildSlice 33 1 #[(0, Operand.const (Value.int IntKind.i64 0))], type := 33, pos := "theorems.go:104", after := #[], guard := none }) rfl (by rfl) ?_
      refine wp_newK 3 #[.int .i64 (0)] (fun k => .slice (some ⟨k, 0, none⟩) 1 1) (fun w => by go_simp; try rfl) (fun k56 w' hk hh hlt hbk => ?_)
      replace hA := hA.mkB hA.below.size hk hh hlt hbk
      clear hk hh hlt hbk
      refine hold_and hA.below (fun hS => ?_)
      try simp only [Act.put, List.setIfInBounds_toArray, List.set_cons_zero, List.set_cons_succ]
      refine wpH_op 8 (oi := { dst := some 61, op := Op.makeSlice 35 (Operand.tmp 60) (Operand.tmp 60), type := 35, pos := "theorems.go:104", after := #[{ on := 7, ground := Ground.data }, { on := 7, ground := Ground.data }], guard := none }) rfl (by kernel_rfl) (by rfl) ?_
      refine wp_newK 49 (madeCells #[.int .i64 (0), .int .i64 (0)] (l.length * 2)) (fun k => .slice (some ⟨k, 0, none⟩) l.length l.length) (fun w => by go_simp; try rfl) (fun k61 w' hk hh hlt hbk => ?_)
      replace hA := hA.mkD hA.below.size (by omega) hk hh hlt hbk
      clear hk hh hlt hbk
      refine hold_and hA.below (fun hS => ?_)
      try simp only [Act.put, List.setIfInBounds_toArray, List.set_cons_zero, List.set_cons_succ]
      (refine wpH_pure 9 ?_ (oi := { dst := some 62, op := Op.build 37 #[(0, Operand.tmp 54), (1, Operand.tmp 55), (2, Operand.tmp 56), (3, Operand.tmp 57), (4, Operand.tmp 61)], type := 37, pos := "theorems.go:104", after := #[{ on := 1, ground := Ground.data }, { on := 2, ground := Ground.data }, { on := 3, ground := Ground.data }, { on := 4, ground := Ground.data }, { on := 8, ground := Ground.data }], guard := none }) rfl (by kernel_rfl) (by kernel_rfl) (by kernel_rfl) (by rfl) hS (fun _ _ _ h => h) ?_ ?_; rotate_left; focus (intro w; go_simp; try with_reducible rfl))
      try simp only [Act.put, List.setIfInBounds_toArray, List.set_cons_zero, List.set_cons_succ]
      refine wpH_op 10 (oi := { dst := some 63, op := Op.box 37 (Operand.tmp 62), type := 32, pos := "theorems.go:104", after := #[{ on := 9, ground := Ground.data }], guard := none }) rfl (by kernel_rfl) (by rfl) ?_
      refine wp_newK 37 #[.slice ma l.length mc, .slice (some ⟨k55, 0, none⟩) 1 1, .slice (some ⟨k56, 0, none⟩) 1 1, .slice (some ⟨k57, 0, none⟩) 1 1, .slice (some ⟨k61, 0, none⟩) l.length l.length] (fun k => .pointer (some ⟨k, 0, none⟩)) (fun w => by go_simp; try rfl) (fun k63 w' hk hh hlt hbk => ?_)
      have hp1 := Nat.le_trans hA.below.size hk
      have hp3 := Nat.ne_of_lt (Nat.lt_of_lt_of_le (hA.fa _ rfl).2.2 hk)
      have hp4 := Nat.ne_of_lt (Nat.lt_of_lt_of_le (hA.fb _ rfl).2.2 hk)
      have hp5 := Nat.ne_of_lt (Nat.lt_of_lt_of_le (hA.fc _ rfl).2.2 hk)
      have hp6 := Nat.ne_of_lt (Nat.lt_of_lt_of_le (hA.fd _ rfl).2.2 hk)
      have hp2 := Blk.of_heap hh hlt
      replace hA := hA.keep hA.below.size hbk
      refine hold_and hA.below (fun hS => ?_)
      try simp only [Act.put, List.setIfInBounds_toArray, List.set_cons_zero, List.set_cons_succ]
      (refine wpH_pure 11 ?_ (oi := { dst := some 3, op := Op.assign (Operand.tmp 63), type := 32, pos := "theorems.go:104", after := #[{ on := 10, ground := Ground.data }, { on := 0, ground := Ground.phase }, { on := 1, ground := Ground.phase }, { on := 2, ground := Ground.phase }, { on := 3, ground := Ground.phase }, { on := 4, ground := Ground.phase }, { on := 5, ground := Ground.phase }, { on := 6, ground := Ground.phase }, { on := 7, ground := Ground.phase }, { on := 8, ground := Ground.phase }, { on := 9, ground := Ground.phase }, { on := 10, ground := Ground.phase }], guard := none }) rfl (by kernel_rfl) (by kernel_rfl) (by kernel_rfl) (by rfl) hS (fun _ _ _ h => h) ?_ ?_; rotate_left; focus (intro w; go_simp; try with_reducible rfl))
      try simp only [Act.put, List.setIfInBounds_toArray, List.set_cons_zero, List.set_cons_succ]
      refine wpAnyH_done (by kernel_rfl) ?_ _
      unfold NormQ
      refine ⟨⟨_, _, _, _, _⟩, ?_, hA, hp1, hp2, hp3, hp4, hp5, hp6⟩
      (try simp only [Act.put, List.setIfInBounds_toArray, List.set_cons_zero, List.set_cons_succ])
      refine wpO_op (oi := { dst := some 61, op := Op.makeSlice 35 (Operand.tmp 60) (Operand.tmp 60), type := 35, pos := "theorems.go:104", after := #[{ on := 7, ground := Ground.data }, { on := 7, ground := Ground.data }], guard := none }) rfl (by rfl) ?_
      refine wp_newK 49 (madeCells #[.int .i64 (0), .int .i64 (0)] (l.length * 2)) (fun k => .slice (some ⟨k, 0, none⟩) l.length l.length) (fun w => by go_simp; try rfl) (fun k61 w' hk hh hlt hbk => ?_)
      replace hA := hA.mkD hA.below.size (by omega) hk hh hlt hbk
      clear hk hh hlt hbk
      refine hold_and hA.below (fun hS => ?_)
      try simp only [Act.put, List.setIfInBounds_toArray, List.set_cons_zero, List.set_cons_succ]
      refine wpH_op 3 (oi := { dst := some 56, op := Op.buildSlice 33 1 #[(0, Operand.const (Value.int IntKind.i64 0))], type := 33, pos := "theorems.go:104", after := #[], guard := none }) rfl (by kernel_rfl) (by rfl) ?_
      refine wp_newK 3 #[.int .i64 (0)] (fun k => .slice (some ⟨k, 0, none⟩) 1 1) (fun w => by go_simp; try rfl) (fun k56 w' hk hh hlt hbk => ?_)
      replace hA := hA.mkB hA.below.size hk hh hlt hbk
      clear hk hh hlt hbk
      refine hold_and hA.below (fun hS => ?_)
      try simp only [Act.put, List.setIfInBounds_toArray, List.set_cons_zero, List.set_cons_succ]
      (refine wpH_pure 9 ?_ (oi := { dst := some 62, op := Op.build 37 #[(0, Operand.tmp 54), (1, Operand.tmp 55), (2, Operand.tmp 56), (3, Operand.tmp 57), (4, Operand.tmp 61)], type := 37, pos := "theorems.go:104", after := #[{ on := 1, ground := Ground.data }, { on := 2, ground := Ground.data }, { on := 3, ground := Ground.data }, { on := 4, ground := Ground.data }, { on := 8, ground := Ground.data }], guard := none }) rfl (by kernel_rfl) (by kernel_rfl) (by kernel_rfl) (by rfl) hS (fun _ _ _ h => h) ?_ ?_; rotate_left; focus (intro w; go_simp; try with_reducible rfl))
      try simp only [Act.put, List.setIfInBounds_toArray, List.set_cons_zero, List.set_cons_succ]
      refine wpH_op 10 (oi := { dst := some 63, op := Op.box 37 (Operand.tmp 62), type := 32, pos := "theorems.go:104", after := #[{ on := 9, ground := Ground.data }], guard := none }) rfl (by kernel_rfl) (by rfl) ?_
      refine wp_newK 37 #[.slice ma l.length mc, .slice (some ⟨k55, 0, none⟩) 1 1, .slice (some ⟨k56, 0, none⟩) 1 1, .slice (some ⟨k57, 0, none⟩) 1 1, .slice (some ⟨k61, 0, none⟩) l.length l.length] (fun k => .pointer (some ⟨k, 0, none⟩)) (fun w => by go_simp; try rfl) (fun k63 w' hk hh hlt hbk => ?_)
      have hp1 := Nat.le_trans hA.below.size hk
      have hp3 := Nat.ne_of_lt (Nat.lt_of_lt_of_le (hA.fa _ rfl).2.2 hk)
      have hp4 := Nat.ne_of_lt (Nat.lt_of_lt_of_le (hA.fb _ rfl).2.2 hk)
      have hp5 := Nat.ne_of_lt (Nat.lt_of_lt_of_le (hA.fc _ rfl).2.2 hk)
      have hp6 := Nat.ne_of_lt (Nat.lt_of_lt_of_le (hA.fd _ rfl).2.2 hk)
      have hp2 := Blk.of_heap hh hlt
      replace hA := hA.keep hA.below.size hbk
      refine hold_and hA.below (fun hS => ?_)
      try simp only [Act.put, List.setIfInBounds_toArray, List.set_cons_zero, List.set_cons_succ]
      (refine wpH_pure 11 ?_ (oi := { dst := some 3, op := Op.assign (Operand.tmp 63), type := 32, pos := "theorems.go:104", after := #[{ on := 10, ground := Ground.data }, { on := 0, ground := Ground.phase }, { on := 1, ground := Ground.phase }, { on := 2, ground := Ground.phase }, { on := 3, ground := Ground.phase }, { on := 4, ground := Ground.phase }, { on := 5, ground := Ground.phase }, { on := 6, ground := Ground.phase }, { on := 7, ground := Ground.phase }, { on := 8, ground := Ground.phase }, { on := 9, ground := Ground.phase }, { on := 10, ground := Ground.phase }], guard := none }) rfl (by kernel_rfl) (by kernel_rfl) (by kernel_rfl) (by rfl) hS (fun _ _ _ h => h) ?_ ?_; rotate_left; focus (intro w; go_simp; try with_reducible rfl))
      try simp only [Act.put, List.setIfInBounds_toArray, List.set_cons_zero, List.set_cons_succ]
      refine wpAnyH_done (by kernel_rfl) ?_ _
      unfold NormQ
      refine ⟨⟨_, _, _, _, _⟩, ?_, hA, hp1, hp2, hp3, hp4, hp5, hp6⟩
      (try simp only [Act.put, List.setIfInBounds_toArray, List.set_cons_zero, List.set_cons_succ])
      refine wpO_op (oi := { dst := some 61, op := Op.makeSlice 35 (Operand.tmp 60) (Operand.tmp 60), type := 35, pos := "theorems.go:104", after := #[{ on := 7, ground := Ground.data }, { on := 7, ground := Ground.data }], guard := none }) rfl (by rfl) ?_
      refine wp_newK 49 (madeCells #[.int .i64 (0), .int .i64 (0)] (l.length * 2)) (fun k => .slice (some ⟨k, 0, none⟩) l.length l.length) (fun w => by go_simp; try rfl) (fun k61 w' hk hh hlt hbk => ?_)
      replace hA := hA.mkD hA.below.size (by omega) hk hh hlt hbk
      clear hk hh hlt hbk
      refine hold_and hA.below (fun hS => ?_)
      try simp only [Act.put, List.setIfInBounds_toArray, List.set_cons_zero, List.set_cons_succ]
      refine wpAnyH_all (rs := [3, 4]) (by kernel_rfl) (by simp) (fun jj hjj => ?_)
      simp only [List.mem_cons, List.not_mem_nil, or_false] at hjj
      rcases hjj with rfl | rfl
      refine wpO_op (oi := { dst := some 56, op := Op.buildSlice 33 1 #[(0, Operand.const (Value.int IntKind.i64 0))], type := 33, pos := "theorems.go:104", after := #[], guard := none }) rfl (by rfl) ?_
      refine wp_newK 3 #[.int .i64 (0)] (fun k => .slice (some ⟨k, 0, none⟩) 1 1) (fun w => by go_simp; try rfl) (fun k56 w' hk hh hlt hbk => ?_)
      replace hA := hA.mkB hA.below.size hk hh hlt hbk
      clear hk hh hlt hbk
      refine hold_and hA.below (fun hS => ?_)
      try simp only [Act.put, List.setIfInBounds_toArray, List.set_cons_zero, List.set_cons_succ]
      refine wpH_op 4 (oi := { dst := some 57, op := Op.buildSlice 34 1 #[(0, Operand.const (Value.slice none 0 0))], type := 34, pos := "theorems.go:104", after := #[], guard := none }) rfl (by kernel_rfl) (by rfl) ?_
      refine wp_newK 23 #[nilS] (fun k => .slice (some ⟨k, 0, none⟩) 1 1) (fun w => by go_simp; try rfl) (fun k57 w' hk hh hlt hbk => ?_)
      replace hA := hA.mkC hA.below.size hk hh hlt hbk
      clear hk hh hlt hbk
      refine hold_and hA.below (fun hS => ?_)
      try simp only [Act.put, List.setIfInBounds_toArray, List.set_cons_zero, List.set_cons_succ]
      (refine wpH_pure 9 ?_ (oi := { dst := some 62, op := Op.build 37 #[(0, Operand.tmp 54), (1, Operand.tmp 55), (2, Operand.tmp 56), (3, Operand.tmp 57), (4, Operand.tmp 61)], type := 37, pos := "theorems.go:104", after := #[{ on := 1, ground := Ground.data }, { on := 2, ground := Ground.data }, { on := 3, ground := Ground.data }, { on := 4, ground := Ground.data }, { on := 8, ground := Ground.data }], guard := none }) rfl (by kernel_rfl) (by kernel_rfl) (by kernel_rfl) (by rfl) hS (fun _ _ _ h => h) ?_ ?_; rotate_left; focus (intro w; go_simp; try with_reducible rfl))
      try simp only [Act.put, List.setIfInBounds_toArray, List.set_cons_zero, List.set_cons_succ]
      refine wpH_op 10 (oi := { dst := some 63, op := Op.box 37 (Operand.tmp 62), type := 32, pos := "theorems.go:104", after := #[{ on := 9, ground := Ground.data }], guard := none }) rfl (by kernel_rfl) (by rfl) ?_
      refine wp_newK 37 #[.slice ma l.length mc, .slice (some ⟨k55, 0, none⟩) 1 1, .slice (some ⟨k56, 0, none⟩) 1 1, .slice (some ⟨k57, 0, none⟩) 1 1, .slice (some ⟨k61, 0, none⟩) l.length l.length] (fun k => .pointer (some ⟨k, 0, none⟩)) (fun w => by go_simp; try rfl) (fun k63 w' hk hh hlt hbk => ?_)
      have hp1 := Nat.le_trans hA.below.size hk
      have hp3 := Nat.ne_of_lt (Nat.lt_of_lt_of_le (hA.fa _ rfl).2.2 hk)
      have hp4 := Nat.ne_of_lt (Nat.lt_of_lt_of_le (hA.fb _ rfl).2.2 hk)
      have hp5 := Nat.ne_of_lt (Nat.lt_of_lt_of_le (hA.fc _ rfl).2.2 hk)
      have hp6 := Nat.ne_of_lt (Nat.lt_of_lt_of_le (hA.fd _ rfl).2.2 hk)
      have hp2 := Blk.of_heap hh hlt
      replace hA := hA.keep hA.below.size hbk
      refine hold_and hA.below (fun hS => ?_)
      try simp only [Act.put, List.setIfInBounds_toArray, List.set_cons_zero, List.set_cons_succ]
      (refine wpH_pure 11 ?_ (oi := { dst := some 3, op := Op.assign (Operand.tmp 63), type := 32, pos := "theorems.go:104", after := #[{ on := 10, ground := Ground.data }, { on := 0, ground := Ground.phase }, { on := 1, ground := Ground.phase }, { on := 2, ground := Ground.phase }, { on := 3, ground := Ground.phase }, { on := 4, ground := Ground.phase }, { on := 5, ground := Ground.phase }, { on := 6, ground := Ground.phase }, { on := 7, ground := Ground.phase }, { on := 8, ground := Ground.phase }, { on := 9, ground := Ground.phase }, { on := 10, ground := Ground.phase }], guard := none }) rfl (by kernel_rfl) (by kernel_rfl) (by kernel_rfl) (by rfl) hS (fun _ _ _ h => h) ?_ ?_; rotate_left; focus (intro w; go_simp; try with_reducible rfl))
      try simp only [Act.put, List.setIfInBounds_toArray, List.set_cons_zero, List.set_cons_succ]
      refine wpAnyH_done (by kernel_rfl) ?_ _
      unfold NormQ
      refine ⟨⟨_, _, _, _, _⟩, ?_, hA, hp1, hp2, hp3, hp4, hp5, hp6⟩
      (try simp only [Act.put, List.setIfInBounds_toArray, List.set_cons_zero, List.set_cons_succ])
      refine wpO_op (oi := { dst := some 57, op := Op.buildSlice 34 1 #[(0, Operand.const (Value.slice none 0 0))], type := 34, pos := "theorems.go:104", after := #[], guard := none }) rfl (by rfl) ?_
      refine wp_newK 23 #[nilS] (fun k => .slice (some ⟨k, 0, none⟩) 1 1) (fun w => by go_simp; try rfl) (fun k57 w' hk hh hlt hbk => ?_)
      replace hA := hA.mkC hA.below.size hk hh hlt hbk
      clear hk hh hlt hbk
      refine hold_and hA.below (fun hS => ?_)
      try simp only [Act.put, List.setIfInBounds_toArray, List.set_cons_zero, List.set_cons_succ]
      refine wpH_op 3 (oi := { dst := some 56, op := Op.buildSlice 33 1 #[(0, Operand.const (Value.int IntKind.i64 0))], type := 33, pos := "theorems.go:104", after := #[], guard := none }) rfl (by kernel_rfl) (by rfl) ?_
      refine wp_newK 3 #[.int .i64 (0)] (fun k => .slice (some ⟨k, 0, none⟩) 1 1) (fun w => by go_simp; try rfl) (fun k56 w' hk hh hlt hbk => ?_)
      replace hA := hA.mkB hA.below.size hk hh hlt hbk
      clear hk hh hlt hbk
      refine hold_and hA.below (fun hS => ?_)
      try simp only [Act.put, List.setIfInBounds_toArray, List.set_cons_zero, List.set_cons_succ]
      (refine wpH_pure 9 ?_ (oi := { dst := some 62, op := Op.build 37 #[(0, Operand.tmp 54), (1, Operand.tmp 55), (2, Operand.tmp 56), (3, Operand.tmp 57), (4, Operand.tmp 61)], type := 37, pos := "theorems.go:104", after := #[{ on := 1, ground := Ground.data }, { on := 2, ground := Ground.data }, { on := 3, ground := Ground.data }, { on := 4, ground := Ground.data }, { on := 8, ground := Ground.data }], guard := none }) rfl (by kernel_rfl) (by kernel_rfl) (by kernel_rfl) (by rfl) hS (fun _ _ _ h => h) ?_ ?_; rotate_left; focus (intro w; go_simp; try with_reducible rfl))
      try simp only [Act.put, List.setIfInBounds_toArray, List.set_cons_zero, List.set_cons_succ]
      refine wpH_op 10 (oi := { dst := some 63, op := Op.box 37 (Operand.tmp 62), type := 32, pos := "theorems.go:104", after := #[{ on := 9, ground := Ground.data }], guard := none }) rfl (by kernel_rfl) (by rfl) ?_
      refine wp_newK 37 #[.slice ma l.length mc, .slice (some ⟨k55, 0, none⟩) 1 1, .slice (some ⟨k56, 0, none⟩) 1 1, .slice (some ⟨k57, 0, none⟩) 1 1, .slice (some ⟨k61, 0, none⟩) l.length l.length] (fun k => .pointer (some ⟨k, 0, none⟩)) (fun w => by go_simp; try rfl) (fun k63 w' hk hh hlt hbk => ?_)
      have hp1 := Nat.le_trans hA.below.size hk
      have hp3 := Nat.ne_of_lt (Nat.lt_of_lt_of_le (hA.fa _ rfl).2.2 hk)
      have hp4 := Nat.ne_of_lt (Nat.lt_of_lt_of_le (hA.fb _ rfl).2.2 hk)
      have hp5 := Nat.ne_of_lt (Nat.lt_of_lt_of_le (hA.fc _ rfl).2.2 hk)
      have hp6 := Nat.ne_of_lt (Nat.lt_of_lt_of_le (hA.fd _ rfl).2.2 hk)
      have hp2 := Blk.of_heap hh hlt
      replace hA := hA.keep hA.below.size hbk
      refine hold_and hA.below (fun hS => ?_)
      try simp only [Act.put, List.setIfInBounds_toArray, List.set_cons_zero, List.set_cons_succ]
      (refine wpH_pure 11 ?_ (oi := { dst := some 3, op := Op.assign (Operand.tmp 63), type := 32, pos := "theorems.go:104", after := #[{ on := 10, ground := Ground.data }, { on := 0, ground := Ground.phase }, { on := 1, ground := Ground.phase }, { on := 2, ground := Ground.phase }, { on := 3, ground := Ground.phase }, { on := 4, ground := Ground.phase }, { on := 5, ground := Ground.phase }, { on := 6, ground := Ground.phase }, { on := 7, ground := Ground.phase }, { on := 8, ground := Ground.phase }, { on := 9, ground := Ground.phase }, { on := 10, ground := Ground.phase }], guard := none }) rfl (by kernel_rfl) (by kernel_rfl) (by kernel_rfl) (by rfl) hS (fun _ _ _ h => h) ?_ ?_; rotate_left; focus (intro w; go_simp; try with_reducible rfl))
      try simp only [Act.put, List.setIfInBounds_toArray, List.set_cons_zero, List.set_cons_succ]
      refine wpAnyH_done (by kernel_rfl) ?_ _
      unfold NormQ
      refine ⟨⟨_, _, _, _, _⟩, ?_, hA, hp1, hp2, hp3, hp4, hp5, hp6⟩
      (try simp only [Act.put, List.setIfInBounds_toArray, List.set_cons_zero, List.set_cons_succ])
      refine wpO_op (oi := { dst := some 56, op := Op.buildSlice 33 1 #[(0, Operand.const (Value.int IntKind.i64 0))], type := 33, pos := "theorems.go:104", after := #[], guard := none }) rfl (by rfl) ?_
      refine wp_newK 3 #[.int .i64 (0)] (fun k => .slice (some ⟨k, 0, none⟩) 1 1) (fun w => by go_simp; try rfl) (fun k56 w' hk hh hlt hbk => ?_)
      replace hA := hA.mkB hA.below.size hk hh hlt hbk
      clear hk hh hlt hbk
      refine hold_and hA.below (fun hS => ?_)
      try simp only [Act.put, List.setIfInBounds_toArray, List.set_cons_zero, List.set_cons_succ]
      refine wpAnyH_all (rs := [2, 4, 8]) (by kernel_rfl) (by simp) (fun jj hjj => ?_)
      simp only [List.mem_cons, List.not_mem_nil, or_false] at hjj
      rcases hjj with rfl | rfl | rfl
      refine wpO_op (oi := { dst := some 55, op := Op.buildSlice 33 1 #[(0, Operand.const (Value.int IntKind.i64 0))], type := 33, pos := "theorems.go:104", after := #[], guard := none }) rfl (by rfl) ?_
      refine wp_newK 3 #[.int .i64 (0)] (fun k => .slice (some ⟨k, 0, none⟩) 1 1) (fun w => by go_simp; try rfl) (fun k55 w' hk hh hlt hbk => ?_)
      replace hA := hA.mkA hA.below.size hk hh hlt hbk
      clear hk hh hlt hbk
      refine hold_and hA.below (fun hS => ?_)
      try simp only [Act.put, List.setIfInBounds_toArray, List.set_cons_zero, List.set_cons_succ]
      refine wpAnyH_all (rs := [4, 8]) (by kernel_rfl) (by simp) (fun jj hjj => ?_)
      simp only [List.mem_cons, List.not_mem_nil, or_false] at hjj
      rcases hjj with rfl | rfl
      refine wpO_op (oi := { dst := some 57, op := Op.buildSlice 34 1 #[(0, Operand.const (Value.slice none 0 0))], type := 34, pos := "theorems.go:104", after := #[], guard := none }) rfl (by rfl) ?_
      refine wp_newK 23 #[nilS] (fun k => .slice (some ⟨k, 0, none⟩) 1 1) (fun w => by go_simp; try rfl) (fun k57 w' hk hh hlt hbk => ?_)
      replace hA := hA.mkC hA.below.size hk hh hlt hbk
      clear hk hh hlt hbk
      refine hold_and hA.below (fun hS => ?_)
      try simp only [Act.put, List.setIfInBounds_toArray, List.set_cons_zero, List.set_cons_succ]
      refine wpH_op 8 (oi := { dst := some 61, op := Op.makeSlice 35 (Operand.tmp 60) (Operand.tmp 60), type := 35, pos := "theorems.go:104", after := #[{ on := 7, ground := Ground.data }, { on := 7, ground := Ground.data }], guard := none }) rfl (by kernel_rfl) (by rfl) ?_
      refine wp_newK 49 (madeCells #[.int .i64 (0), .int .i64 (0)] (l.length * 2)) (fun k => .slice (some ⟨k, 0, none⟩) l.length l.length) (fun w => by go_simp; try rfl) (fun k61 w' hk hh hlt hbk => ?_)
      replace hA := hA.mkD hA.below.size (by omega) hk hh hlt hbk
      clear hk hh hlt hbk
      refine hold_and hA.below (fun hS => ?_)
      try simp only [Act.put, List.setIfInBounds_toArray, List.set_cons_zero, List.set_cons_succ]
      (refine wpH_pure 9 ?_ (oi := { dst := some 62, op := Op.build 37 #[(0, Operand.tmp 54), (1, Operand.tmp 55), (2, Operand.tmp 56), (3, Operand.tmp 57), (4, Operand.tmp 61)], type := 37, pos := "theorems.go:104", after := #[{ on := 1, ground := Ground.data }, { on := 2, ground := Ground.data }, { on := 3, ground := Ground.data }, { on := 4, ground := Ground.data }, { on := 8, ground := Ground.data }], guard := none }) rfl (by kernel_rfl) (by kernel_rfl) (by kernel_rfl) (by rfl) hS (fun _ _ _ h => h) ?_ ?_; rotate_left; focus (intro w; go_simp; try with_reducible rfl))
      try simp only [Act.put, List.setIfInBounds_toArray, List.set_cons_zero, List.set_cons_succ]
      refine wpH_op 10 (oi := { dst := some 63, op := Op.box 37 (Operand.tmp 62), type := 32, pos := "theorems.go:104", after := #[{ on := 9, ground := Ground.data }], guard := none }) rfl (by kernel_rfl) (by rfl) ?_
      refine wp_newK 37 #[.slice ma l.length mc, .slice (some ⟨k55, 0, none⟩) 1 1, .slice (some ⟨k56, 0, none⟩) 1 1, .slice (some ⟨k57, 0, none⟩) 1 1, .slice (some ⟨k61, 0, none⟩) l.length l.length] (fun k => .pointer (some ⟨k, 0, none⟩)) (fun w => by go_simp; try rfl) (fun k63 w' hk hh hlt hbk => ?_)
      have hp1 := Nat.le_trans hA.below.size hk
      have hp3 := Nat.ne_of_lt (Nat.lt_of_lt_of_le (hA.fa _ rfl).2.2 hk)
      have hp4 := Nat.ne_of_lt (Nat.lt_of_lt_of_le (hA.fb _ rfl).2.2 hk)
      have hp5 := Nat.ne_of_lt (Nat.lt_of_lt_of_le (hA.fc _ rfl).2.2 hk)
      have hp6 := Nat.ne_of_lt (Nat.lt_of_lt_of_le (hA.fd _ rfl).2.2 hk)
      have hp2 := Blk.of_heap hh hlt
      replace hA := hA.keep hA.below.size hbk
      refine hold_and hA.below (fun hS => ?_)
      try simp only [Act.put, List.setIfInBounds_toArray, List.set_cons_zero, List.set_cons_succ]
      (refine wpH_pure 11 ?_ (oi := { dst := some 3, op := Op.assign (Operand.tmp 63), type := 32, pos := "theorems.go:104", after := #[{ on := 10, ground := Ground.data }, { on := 0, ground := Ground.phase }, { on := 1, ground := Ground.phase }, { on := 2, ground := Ground.phase }, { on := 3, ground := Ground.phase }, { on := 4, ground := Ground.phase }, { on := 5, ground := Ground.phase }, { on := 6, ground := Ground.phase }, { on := 7, ground := Ground.phase }, { on := 8, ground := Ground.phase }, { on := 9, ground := Ground.phase }, { on := 10, ground := Ground.phase }], guard := none }) rfl (by kernel_rfl) (by kernel_rfl) (by kernel_rfl) (by rfl) hS (fun _ _ _ h => h) ?_ ?_; rotate_left; focus (intro w; go_simp; try with_reducible rfl))
      try simp only [Act.put, List.setIfInBounds_toArray, List.set_cons_zero, List.set_cons_succ]
      refine wpAnyH_done (by kernel_rfl) ?_ _
      unfold NormQ
      refine ⟨⟨_, _, _, _, _⟩, ?_, hA, hp1, hp2, hp3, hp4, hp5, hp6⟩
      (try simp only [Act.put, List.setIfInBounds_toArray, List.set_cons_zero, List.set_cons_succ])
      refine wpO_op (oi := { dst := some 61, op := Op.makeSlice 35 (Operand.tmp 60) (Operand.tmp 60), type := 35, pos := "theorems.go:104", after := #[{ on := 7, ground := Ground.data }, { on := 7, ground := Ground.data }], guard := none }) rfl (by rfl) ?_
      refine wp_newK 49 (madeCells #[.int .i64 (0), .int .i64 (0)] (l.length * 2)) (fun k => .slice (some ⟨k, 0, none⟩) l.length l.length) (fun w => by go_simp; try rfl) (fun k61 w' hk hh hlt hbk => ?_)
      replace hA := hA.mkD hA.below.size (by omega) hk hh hlt hbk
      clear hk hh hlt hbk
      refine hold_and hA.below (fun hS => ?_)
      try simp only [Act.put, List.setIfInBounds_toArray, List.set_cons_zero, List.set_cons_succ]
      refine wpH_op 4 (oi := { dst := some 57, op := Op.buildSlice 34 1 #[(0, Operand.const (Value.slice none 0 0))], type := 34, pos := "theorems.go:104", after := #[], guard := none }) rfl (by kernel_rfl) (by rfl) ?_
      refine wp_newK 23 #[nilS] (fun k => .slice (some ⟨k, 0, none⟩) 1 1) (fun w => by go_simp; try rfl) (fun k57 w' hk hh hlt hbk => ?_)
      replace hA := hA.mkC hA.below.size hk hh hlt hbk
      clear hk hh hlt hbk
      refine hold_and hA.below (fun hS => ?_)
      try simp only [Act.put, List.setIfInBounds_toArray, List.set_cons_zero, List.set_cons_succ]
      (refine wpH_pure 9 ?_ (oi := { dst := some 62, op := Op.build 37 #[(0, Operand.tmp 54), (1, Operand.tmp 55), (2, Operand.tmp 56), (3, Operand.tmp 57), (4, Operand.tmp 61)], type := 37, pos := "theorems.go:104", after := #[{ on := 1, ground := Ground.data }, { on := 2, ground := Ground.data }, { on := 3, ground := Ground.data }, { on := 4, ground := Ground.data }, { on := 8, ground := Ground.data }], guard := none }) rfl (by kernel_rfl) (by kernel_rfl) (by kernel_rfl) (by rfl) hS (fun _ _ _ h => h) ?_ ?_; rotate_left; focus (intro w; go_simp; try with_reducible rfl))
      try simp only [Act.put, List.setIfInBounds_toArray, List.set_cons_zero, List.set_cons_succ]
      refine wpH_op 10 (oi := { dst := some 63, op := Op.box 37 (Operand.tmp 62), type := 32, pos := "theorems.go:104", after := #[{ on := 9, ground := Ground.data }], guard := none }) rfl (by kernel_rfl) (by rfl) ?_
      refine wp_newK 37 #[.slice ma l.length mc, .slice (some ⟨k55, 0, none⟩) 1 1, .slice (some ⟨k56, 0, none⟩) 1 1, .slice (some ⟨k57, 0, none⟩) 1 1, .slice (some ⟨k61, 0, none⟩) l.length l.length] (fun k => .pointer (some ⟨k, 0, none⟩)) (fun w => by go_simp; try rfl) (fun k63 w' hk hh hlt hbk => ?_)
      have hp1 := Nat.le_trans hA.below.size hk
      have hp3 := Nat.ne_of_lt (Nat.lt_of_lt_of_le (hA.fa _ rfl).2.2 hk)
      have hp4 := Nat.ne_of_lt (Nat.lt_of_lt_of_le (hA.fb _ rfl).2.2 hk)
      have hp5 := Nat.ne_of_lt (Nat.lt_of_lt_of_le (hA.fc _ rfl).2.2 hk)
      have hp6 := Nat.ne_of_lt (Nat.lt_of_lt_of_le (hA.fd _ rfl).2.2 hk)
      have hp2 := Blk.of_heap hh hlt
      replace hA := hA.keep hA.below.size hbk
      refine hold_and hA.below (fun hS => ?_)
      try simp only [Act.put, List.setIfInBounds_toArray, List.set_cons_zero, List.set_cons_succ]
      (refine wpH_pure 11 ?_ (oi := { dst := some 3, op := Op.assign (Operand.tmp 63), type := 32, pos := "theorems.go:104", after := #[{ on := 10, ground := Ground.data }, { on := 0, ground := Ground.phase }, { on := 1, ground := Ground.phase }, { on := 2, ground := Ground.phase }, { on := 3, ground := Ground.phase }, { on := 4, ground := Ground.phase }, { on := 5, ground := Ground.phase }, { on := 6, ground := Ground.phase }, { on := 7, ground := Ground.phase }, { on := 8, ground := Ground.phase }, { on := 9, ground := Ground.phase }, { on := 10, ground := Ground.phase }], guard := none }) rfl (by kernel_rfl) (by kernel_rfl) (by kernel_rfl) (by rfl) hS (fun _ _ _ h => h) ?_ ?_; rotate_left; focus (intro w; go_simp; try with_reducible rfl))
      try simp only [Act.put, List.setIfInBounds_toArray, List.set_cons_zero, List.set_cons_succ]
      refine wpAnyH_done (by kernel_rfl) ?_ _
      unfold NormQ
      refine ⟨⟨_, _, _, _, _⟩, ?_, hA, hp1, hp2, hp3, hp4, hp5, hp6⟩
      (try simp only [Act.put, List.setIfInBounds_toArray, List.set_cons_zero, List.set_cons_succ])
      refine wpO_op (oi := { dst := some 57, op := Op.buildSlice 34 1 #[(0, Operand.const (Value.slice none 0 0))], type := 34, pos := "theorems.go:104", after := #[], guard := none }) rfl (by rfl) ?_
      refine wp_newK 23 #[nilS] (fun k => .slice (some ⟨k, 0, none⟩) 1 1) (fun w => by go_simp; try rfl) (fun k57 w' hk hh hlt hbk => ?_)
      replace hA := hA.mkC hA.below.size hk hh hlt hbk
      clear hk hh hlt hbk
      refine hold_and hA.below (fun hS => ?_)
      try simp only [Act.put, List.setIfInBounds_toArray, List.set_cons_zero, List.set_cons_succ]
      refine wpAnyH_all (rs := [2, 8]) (by kernel_rfl) (by simp) (fun jj hjj => ?_)
      simp only [List.mem_cons, List.not_mem_nil, or_false] at hjj
      rcases hjj with rfl | rfl
      refine wpO_op (oi := { dst := some 55, op := Op.buildSlice 33 1 #[(0, Operand.const (Value.int IntKind.i64 0))], type := 33, pos := "theorems.go:104", after := #[], guard := none }) rfl (by rfl) ?_
      refine wp_newK 3 #[.int .i64 (0)] (fun k => .slice (some ⟨k, 0, none⟩) 1 1) (fun w => by go_simp; try rfl) (fun k55 w' hk hh hlt hbk => ?_)
      replace hA := hA.mkA hA.below.size hk hh hlt hbk
      clear hk hh hlt hbk
      refine hold_and hA.below (fun hS => ?_)
      try simp only [Act.put, List.setIfInBounds_toArray, List.set_cons_zero, List.set_cons_succ]
      refine wpH_op 8 (oi := { dst := some 61, op := Op.makeSlice 35 (Operand.tmp 60) (Operand.tmp 60), type := 35, pos := "theorems.go:104", after := #[{ on := 7, ground := Ground.data }, { on := 7, ground := Ground.data }], guard := none }) rfl (by kernel_rfl) (by rfl) ?_
      refine wp_newK 49 (madeCells #[.int .i64 (0), .int .i64 (0)] (l.length * 2)) (fun k => .slice (some ⟨k, 0, none⟩) l.length l.length) (fun w => by go_simp; try rfl) (fun k61 w' hk hh hlt hbk => ?_)
      replace hA := hA.mkD hA.below.size (by omega) hk hh hlt hbk
      clear hk hh hlt hbk
      refine hold_and hA.below (fun hS => ?_)
      try simp only [Act.put, List.setIfInBounds_toArray, List.set_cons_zero, List.set_cons_succ]
      (refine wpH_pure 9 ?_ (oi := { dst := some 62, op := Op.build 37 #[(0, Operand.tmp 54), (1, Operand.tmp 55), (2, Operand.tmp 56), (3, Operand.tmp 57), (4, Operand.tmp 61)], type := 37, pos := "theorems.go:104", after := #[{ on := 1, ground := Ground.data }, { on := 2, ground := Ground.data }, { on := 3, ground := Ground.data }, { on := 4, ground := Ground.data }, { on := 8, ground := Ground.data }], guard := none }) rfl (by kernel_rfl) (by kernel_rfl) (by kernel_rfl) (by rfl) hS (fun _ _ _ h => h) ?_ ?_; rotate_left; focus (intro w; go_simp; try with_reducible rfl))
      try simp only [Act.put, List.setIfInBounds_toArray, List.set_cons_zero, List.set_cons_succ]
      refine wpH_op 10 (oi := { dst := some 63, op := Op.box 37 (Operand.tmp 62), type := 32, pos := "theorems.go:104", after := #[{ on := 9, ground := Ground.data }], guard := none }) rfl (by kernel_rfl) (by rfl) ?_
      refine wp_newK 37 #[.slice ma l.length mc, .slice (some ⟨k55, 0, none⟩) 1 1, .slice (some ⟨k56, 0, none⟩) 1 1, .slice (some ⟨k57, 0, none⟩) 1 1, .slice (some ⟨k61, 0, none⟩) l.length l.length] (fun k => .pointer (some ⟨k, 0, none⟩)) (fun w => by go_simp; try rfl) (fun k63 w' hk hh hlt hbk => ?_)
      have hp1 := Nat.le_trans hA.below.size hk
      have hp3 := Nat.ne_of_lt (Nat.lt_of_lt_of_le (hA.fa _ rfl).2.2 hk)
      have hp4 := Nat.ne_of_lt (Nat.lt_of_lt_of_le (hA.fb _ rfl).2.2 hk)
      have hp5 := Nat.ne_of_lt (Nat.lt_of_lt_of_le (hA.fc _ rfl).2.2 hk)
      have hp6 := Nat.ne_of_lt (Nat.lt_of_lt_of_le (hA.fd _ rfl).2.2 hk)
      have hp2 := Blk.of_heap hh hlt
      replace hA := hA.keep hA.below.size hbk
      refine hold_and hA.below (fun hS => ?_)
      try simp only [Act.put, List.setIfInBounds_toArray, List.set_cons_zero, List.set_cons_succ]
      (refine wpH_pure 11 ?_ (oi := { dst := some 3, op := Op.assign (Operand.tmp 63), type := 32, pos := "theorems.go:104", after := #[{ on := 10, ground := Ground.data }, { on := 0, ground := Ground.phase }, { on := 1, ground := Ground.phase }, { on := 2, ground := Ground.phase }, { on := 3, ground := Ground.phase }, { on := 4, ground := Ground.phase }, { on := 5, ground := Ground.phase }, { on := 6, ground := Ground.phase }, { on := 7, ground := Ground.phase }, { on := 8, ground := Ground.phase }, { on := 9, ground := Ground.phase }, { on := 10, ground := Ground.phase }], guard := none }) rfl (by kernel_rfl) (by kernel_rfl) (by kernel_rfl) (by rfl) hS (fun _ _ _ h => h) ?_ ?_; rotate_left; focus (intro w; go_simp; try with_reducible rfl))
      try simp only [Act.put, List.setIfInBounds_toArray, List.set_cons_zero, List.set_cons_succ]
      refine wpAnyH_done (by kernel_rfl) ?_ _
      unfold NormQ
      refine ⟨⟨_, _, _, _, _⟩, ?_, hA, hp1, hp2, hp3, hp4, hp5, hp6⟩
      (try simp only [Act.put, List.setIfInBounds_toArray, List.set_cons_zero, List.set_cons_succ])
      refine wpO_op (oi := { dst := some 61, op := Op.makeSlice 35 (Operand.tmp 60) (Operand.tmp 60), type := 35, pos := "theorems.go:104", after := #[{ on := 7, ground := Ground.data }, { on := 7, ground := Ground.data }], guard := none }) rfl (by rfl) ?_
      refine wp_newK 49 (madeCells #[.int .i64 (0), .int .i64 (0)] (l.length * 2)) (fun k => .slice (some ⟨k, 0, none⟩) l.length l.length) (fun w => by go_simp; try rfl) (fun k61 w' hk hh hlt hbk => ?_)
      replace hA := hA.mkD hA.below.size (by omega) hk hh hlt hbk
      clear hk hh hlt hbk
      refine hold_and hA.below (fun hS => ?_)
      try simp only [Act.put, List.setIfInBounds_toArray, List.set_cons_zero, List.set_cons_succ]
      refine wpH_op 2 (oi := { dst := some 55, op := Op.buildSlice 33 1 #[(0, Operand.const (Value.int IntKind.i64 0))], type := 33, pos := "theorems.go:104", after := #[], guard := none }) rfl (by kernel_rfl) (by rfl) ?_
      refine wp_newK 3 #[.int .i64 (0)] (fun k => .slice (some ⟨k, 0, none⟩) 1 1) (fun w => by go_simp; try rfl) (fun k55 w' hk hh hlt hbk => ?_)
      replace hA := hA.mkA hA.below.size hk hh hlt hbk
      clear hk hh hlt hbk
      refine hold_and hA.below (fun hS => ?_)
      try simp only [Act.put, List.setIfInBounds_toArray, List.set_cons_zero, List.set_cons_succ]
      (refine wpH_pure 9 ?_ (oi := { dst := some 62, op := Op.build 37 #[(0, Operand.tmp 54), (1, Operand.tmp 55), (2, Operand.tmp 56), (3, Operand.tmp 57), (4, Operand.tmp 61)], type := 37, pos := "theorems.go:104", after := #[{ on := 1, ground := Ground.data }, { on := 2, ground := Ground.data }, { on := 3, ground := Ground.data }, { on := 4, ground := Ground.data }, { on := 8, ground := Ground.data }], guard := none }) rfl (by kernel_rfl) (by kernel_rfl) (by kernel_rfl) (by rfl) hS (fun _ _ _ h => h) ?_ ?_; rotate_left; focus (intro w; go_simp; try with_reducible rfl))
      try simp only [Act.put, List.setIfInBounds_toArray, List.set_cons_zero, List.set_cons_succ]
      refine wpH_op 10 (oi := { dst := some 63, op := Op.box 37 (Operand.tmp 62), type := 32, pos := "theorems.go:104", after := #[{ on := 9, ground := Ground.data }], guard := none }) rfl (by kernel_rfl) (by rfl) ?_
      refine wp_newK 37 #[.slice ma l.length mc, .slice (some ⟨k55, 0, none⟩) 1 1, .slice (some ⟨k56, 0, none⟩) 1 1, .slice (some ⟨k57, 0, none⟩) 1 1, .slice (some ⟨k61, 0, none⟩) l.length l.length] (fun k => .pointer (some ⟨k, 0, none⟩)) (fun w => by go_simp; try rfl) (fun k63 w' hk hh hlt hbk => ?_)
      have hp1 := Nat.le_trans hA.below.size hk
      have hp3 := Nat.ne_of_lt (Nat.lt_of_lt_of_le (hA.fa _ rfl).2.2 hk)
      have hp4 := Nat.ne_of_lt (Nat.lt_of_lt_of_le (hA.fb _ rfl).2.2 hk)
      have hp5 := Nat.ne_of_lt (Nat.lt_of_lt_of_le (hA.fc _ rfl).2.2 hk)
      have hp6 := Nat.ne_of_lt (Nat.lt_of_lt_of_le (hA.fd _ rfl).2.2 hk)
      have hp2 := Blk.of_heap hh hlt
      replace hA := hA.keep hA.below.size hbk
      refine hold_and hA.below (fun hS => ?_)
      try simp only [Act.put, List.setIfInBounds_toArray, List.set_cons_zero, List.set_cons_succ]
      (refine wpH_pure 11 ?_ (oi := { dst := some 3, op := Op.assign (Operand.tmp 63), type := 32, pos := "theorems.go:104", after := #[{ on := 10, ground := Ground.data }, { on := 0, ground := Ground.phase }, { on := 1, ground := Ground.phase }, { on := 2, ground := Ground.phase }, { on := 3, ground := Ground.phase }, { on := 4, ground := Ground.phase }, { on := 5, ground := Ground.phase }, { on := 6, ground := Ground.phase }, { on := 7, ground := Ground.phase }, { on := 8, ground := Ground.phase }, { on := 9, ground := Ground.phase }, { on := 10, ground := Ground.phase }], guard := none }) rfl (by kernel_rfl) (by kernel_rfl) (by kernel_rfl) (by rfl) hS (fun _ _ _ h => h) ?_ ?_; rotate_left; focus (intro w; go_simp; try with_reducible rfl))
      try simp only [Act.put, List.setIfInBounds_toArray, List.set_cons_zero, List.set_cons_succ]
      refine wpAnyH_done (by kernel_rfl) ?_ _
      unfold NormQ
      refine ⟨⟨_, _, _, _, _⟩, ?_, hA, hp1, hp2, hp3, hp4, hp5, hp6⟩
      (try simp only [Act.put, List.setIfInBounds_toArray, List.set_cons_zero, List.set_cons_succ])
      refine wpO_op (oi := { dst := some 61, op := Op.makeSlice 35 (Operand.tmp 60) (Operand.tmp 60), type := 35, pos := "theorems.go:104", after := #[{ on := 7, ground := Ground.data }, { on := 7, ground := Ground.data }], guard := none }) rfl (by rfl) ?_
      refine wp_newK 49 (madeCells #[.int .i64 (0), .int .i64 (0)] (l.length * 2)) (fun k => .slice (some ⟨k, 0, none⟩) l.length l.length) (fun w => by go_simp; try rfl) (fun k61 w' hk hh hlt hbk => ?_)
      replace hA := hA.mkD hA.below.size (by omega) hk hh hlt hbk
      clear hk hh hlt hbk
      refine hold_and hA.below (fun hS => ?_)
      try simp only [Act.put, List.setIfInBounds_toArray, List.set_cons_zero, List.set_cons_succ]
      refine wpAnyH_all (rs := [2, 4]) (by kernel_rfl) (by simp) (fun jj hjj => ?_)
      simp only [List.mem_cons, List.not_mem_nil, or_false] at hjj
      rcases hjj with rfl | rfl
      refine wpO_op (oi := { dst := some 55, op := Op.buildSlice 33 1 #[(0, Operand.const (Value.int IntKind.i64 0))], type := 33, pos := "theorems.go:104", after := #[], guard := none }) rfl (by rfl) ?_
      refine wp_newK 3 #[.int .i64 (0)] (fun k => .slice (some ⟨k, 0, none⟩) 1 1) (fun w => by go_simp; try rfl) (fun k55 w' hk hh hlt hbk => ?_)
      replace hA := hA.mkA hA.below.size hk hh hlt hbk
      clear hk hh hlt hbk
      refine hold_and hA.below (fun hS => ?_)
      try simp only [Act.put, List.setIfInBounds_toArray, List.set_cons_zero, List.set_cons_succ]
      refine wpH_op 4 (oi := { dst := some 57, op := Op.buildSlice 34 1 #[(0, Operand.const (Value.slice none 0 0))], type := 34, pos := "theorems.go:104", after := #[], guard := none }) rfl (by kernel_rfl) (by rfl) ?_
      refine wp_newK 23 #[nilS] (fun k => .slice (some ⟨k, 0, none⟩) 1 1) (fun w => by go_simp; try rfl) (fun k57 w' hk hh hlt hbk => ?_)
      replace hA := hA.mkC hA.below.size hk hh hlt hbk
      clear hk hh hlt hbk
      refine hold_and hA.below (fun hS => ?_)
      try simp only [Act.put, List.setIfInBounds_toArray, List.set_cons_zero, List.set_cons_succ]
      (refine wpH_pure 9 ?_ (oi := { dst := some 62, op := Op.build 37 #[(0, Operand.tmp 54), (1, Operand.tmp 55), (2, Operand.tmp 56), (3, Operand.tmp 57), (4, Operand.tmp 61)], type := 37, pos := "theorems.go:104", after := #[{ on := 1, ground := Ground.data }, { on := 2, ground := Ground.data }, { on := 3, ground := Ground.data }, { on := 4, ground := Ground.data }, { on := 8, ground := Ground.data }], guard := none }) rfl (by kernel_rfl) (by kernel_rfl) (by kernel_rfl) (by rfl) hS (fun _ _ _ h => h) ?_ ?_; rotate_left; focus (intro w; go_simp; try with_reducible rfl))
      try simp only [Act.put, List.setIfInBounds_toArray, List.set_cons_zero, List.set_cons_succ]
      refine wpH_op 10 (oi := { dst := some 63, op := Op.box 37 (Operand.tmp 62), type := 32, pos := "theorems.go:104", after := #[{ on := 9, ground := Ground.data }], guard := none }) rfl (by kernel_rfl) (by rfl) ?_
      refine wp_newK 37 #[.slice ma l.length mc, .slice (some ⟨k55, 0, none⟩) 1 1, .slice (some ⟨k56, 0, none⟩) 1 1, .slice (some ⟨k57, 0, none⟩) 1 1, .slice (some ⟨k61, 0, none⟩) l.length l.length] (fun k => .pointer (some ⟨k, 0, none⟩)) (fun w => by go_simp; try rfl) (fun k63 w' hk hh hlt hbk => ?_)
      have hp1 := Nat.le_trans hA.below.size hk
      have hp3 := Nat.ne_of_lt (Nat.lt_of_lt_of_le (hA.fa _ rfl).2.2 hk)
      have hp4 := Nat.ne_of_lt (Nat.lt_of_lt_of_le (hA.fb _ rfl).2.2 hk)
      have hp5 := Nat.ne_of_lt (Nat.lt_of_lt_of_le (hA.fc _ rfl).2.2 hk)
      have hp6 := Nat.ne_of_lt (Nat.lt_of_lt_of_le (hA.fd _ rfl).2.2 hk)
      have hp2 := Blk.of_heap hh hlt
      replace hA := hA.keep hA.below.size hbk
      refine hold_and hA.below (fun hS => ?_)
      try simp only [Act.put, List.setIfInBounds_toArray, List.set_cons_zero, List.set_cons_succ]
      (refine wpH_pure 11 ?_ (oi := { dst := some 3, op := Op.assign (Operand.tmp 63), type := 32, pos := "theorems.go:104", after := #[{ on := 10, ground := Ground.data }, { on := 0, ground := Ground.phase }, { on := 1, ground := Ground.phase }, { on := 2, ground := Ground.phase }, { on := 3, ground := Ground.phase }, { on := 4, ground := Ground.phase }, { on := 5, ground := Ground.phase }, { on := 6, ground := Ground.phase }, { on := 7, ground := Ground.phase }, { on := 8, ground := Ground.phase }, { on := 9, ground := Ground.phase }, { on := 10, ground := Ground.phase }], guard := none }) rfl (by kernel_rfl) (by kernel_rfl) (by kernel_rfl) (by rfl) hS (fun _ _ _ h => h) ?_ ?_; rotate_left; focus (intro w; go_simp; try with_reducible rfl))
      try simp only [Act.put, List.setIfInBounds_toArray, List.set_cons_zero, List.set_cons_succ]
      refine wpAnyH_done (by kernel_rfl) ?_ _
      unfold NormQ
      refine ⟨⟨_, _, _, _, _⟩, ?_, hA, hp1, hp2, hp3, hp4, hp5, hp6⟩
      (try simp only [Act.put, List.setIfInBounds_toArray, List.set_cons_zero, List.set_cons_succ])
      refine wpO_op (oi := { dst := some 57, op := Op.buildSlice 34 1 #[(0, Operand.const (Value.slice none 0 0))], type := 34, pos := "theorems.go:104", after := #[], guard := none }) rfl (by rfl) ?_
      refine wp_newK 23 #[nilS] (fun k => .slice (some ⟨k, 0, none⟩) 1 1) (fun w => by go_simp; try rfl) (fun k57 w' hk hh hlt hbk => ?_)
      replace hA := hA.mkC hA.below.size hk hh hlt hbk
      clear hk hh hlt hbk
      refine hold_and hA.below (fun hS => ?_)
      try simp only [Act.put, List.setIfInBounds_toArray, List.set_cons_zero, List.set_cons_succ]
      refine wpH_op 2 (oi := { dst := some 55, op := Op.buildSlice 33 1 #[(0, Operand.const (Value.int IntKind.i64 0))], type := 33, pos := "theorems.go:104", after := #[], guard := none }) rfl (by kernel_rfl) (by rfl) ?_
      refine wp_newK 3 #[.int .i64 (0)] (fun k => .slice (some ⟨k, 0, none⟩) 1 1) (fun w => by go_simp; try rfl) (fun k55 w' hk hh hlt hbk => ?_)
      replace hA := hA.mkA hA.below.size hk hh hlt hbk
      clear hk hh hlt hbk
      refine hold_and hA.below (fun hS => ?_)
      try simp only [Act.put, List.setIfInBounds_toArray, List.set_cons_zero, List.set_cons_succ]
      (refine wpH_pure 9 ?_ (oi := { dst := some 62, op := Op.build 37 #[(0, Operand.tmp 54), (1, Operand.tmp 55), (2, Operand.tmp 56), (3, Operand.tmp 57), (4, Operand.tmp 61)], type := 37, pos := "theorems.go:104", after := #[{ on := 1, ground := Ground.data }, { on := 2, ground := Ground.data }, { on := 3, ground := Ground.data }, { on := 4, ground := Ground.data }, { on := 8, ground := Ground.data }], guard := none }) rfl (by kernel_rfl) (by kernel_rfl) (by kernel_rfl) (by rfl) hS (fun _ _ _ h => h) ?_ ?_; rotate_left; focus (intro w; go_simp; try with_reducible rfl))
      try simp only [Act.put, List.setIfInBounds_toArray, List.set_cons_zero, List.set_cons_succ]
      refine wpH_op 10 (oi := { dst := some 63, op := Op.box 37 (Operand.tmp 62), type := 32, pos := "theorems.go:104", after := #[{ on := 9, ground := Ground.data }], guard := none }) rfl (by kernel_rfl) (by rfl) ?_
      refine wp_newK 37 #[.slice ma l.length mc, .slice (some ⟨k55, 0, none⟩) 1 1, .slice (some ⟨k56, 0, none⟩) 1 1, .slice (some ⟨k57, 0, none⟩) 1 1, .slice (some ⟨k61, 0, none⟩) l.length l.length] (fun k => .pointer (some ⟨k, 0, none⟩)) (fun w => by go_simp; try rfl) (fun k63 w' hk hh hlt hbk => ?_)
      have hp1 := Nat.le_trans hA.below.size hk
      have hp3 := Nat.ne_of_lt (Nat.lt_of_lt_of_le (hA.fa _ rfl).2.2 hk)
      have hp4 := Nat.ne_of_lt (Nat.lt_of_lt_of_le (hA.fb _ rfl).2.2 hk)
      have hp5 := Nat.ne_of_lt (Nat.lt_of_lt_of_le (hA.fc _ rfl).2.2 hk)
      have hp6 := Nat.ne_of_lt (Nat.lt_of_lt_of_le (hA.fd _ rfl).2.2 hk)
      have hp2 := Blk.of_heap hh hlt
      replace hA := hA.keep hA.below.size hbk
      refine hold_and hA.below (fun hS => ?_)
      try simp only [Act.put, List.setIfInBounds_toArray, List.set_cons_zero, List.set_cons_succ]
      (refine wpH_pure 11 ?_ (oi := { dst := some 3, op := Op.assign (Operand.tmp 63), type := 32, pos := "theorems.go:104", after := #[{ on := 10, ground := Ground.data }, { on := 0, ground := Ground.phase }, { on := 1, ground := Ground.phase }, { on := 2, ground := Ground.phase }, { on := 3, ground := Ground.phase }, { on := 4, ground := Ground.phase }, { on := 5, ground := Ground.phase }, { on := 6, ground := Ground.phase }, { on := 7, ground := Ground.phase }, { on := 8, ground := Ground.phase }, { on := 9, ground := Ground.phase }, { on := 10, ground := Ground.phase }], guard := none }) rfl (by kernel_rfl) (by kernel_rfl) (by kernel_rfl) (by rfl) hS (fun _ _ _ h => h) ?_ ?_; rotate_left; focus (intro w; go_simp; try with_reducible rfl))
      try simp only [Act.put, List.setIfInBounds_toArray, List.set_cons_zero, List.set_cons_succ]
      refine wpAnyH_done (by kernel_rfl) ?_ _
      unfold NormQ
      refine ⟨⟨_, _, _, _, _⟩, ?_, hA, hp1, hp2, hp3, hp4, hp5, hp6⟩
      (try simp only [Act.put, List.setIfInBounds_toArray, List.set_cons_zero, List.set_cons_succ])
      refine wpO_op (oi := { dst := some 57, op := Op.buildSlice 34 1 #[(0, Operand.const (Value.slice none 0 0))], type := 34, pos := "theorems.go:104", after := #[], guard := none }) rfl (by rfl) ?_
      refine wp_newK 23 #[nilS] (fun k => .slice (some ⟨k, 0, none⟩) 1 1) (fun w => by go_simp; try rfl) (fun k57 w' hk hh hlt hbk => ?_)
      replace hA := hA.mkC hA.below.size hk hh hlt hbk
      clear hk hh hlt hbk
      refine hold_and hA.below (fun hS => ?_)
      try simp only [Act.put, List.setIfInBounds_toArray, List.set_cons_zero, List.set_cons_succ]
      refine wpAnyH_all (rs := [2, 3, 8]) (by kernel_rfl) (by simp) (fun jj hjj => ?_)
      simp only [List.mem_cons, List.not_mem_nil, or_false] at hjj
      rcases hjj with rfl | rfl | rfl
      refine wpO_op (oi := { dst := some 55, op := Op.buildSlice 33 1 #[(0, Operand.const (Value.int IntKind.i64 0))], type := 33, pos := "theorems.go:104", after := #[], guard := none }) rfl (by rfl) ?_
      refine wp_newK 3 #[.int .i64 (0)] (fun k => .slice (some ⟨k, 0, none⟩) 1 1) (fun w => by go_simp; try rfl) (fun k55 w' hk hh hlt hbk => ?_)
      replace hA := hA.mkA hA.below.size hk hh hlt hbk
      clear hk hh hlt hbk
      refine hold_and hA.below (fun hS => ?_)
      try simp only [Act.put, List.setIfInBounds_toArray, List.set_cons_zero, List.set_cons_succ]
      refine wpAnyH_all (rs := [3, 8]) (by kernel_rfl) (by simp) (fun jj hjj => ?_)
      simp only [List.mem_cons, List.not_mem_nil, or_false] at hjj
      rcases hjj with rfl | rfl
      refine wpO_op (oi := { dst := some 56, op := Op.buildSlice 33 1 #[(0, Operand.const (Value.int IntKind.i64 0))], type := 33, pos := "theorems.go:104", after := #[], guard := none }) rfl (by rfl) ?_
      refine wp_newK 3 #[.int .i64 (0)] (fun k => .slice (some ⟨k, 0, none⟩) 1 1) (fun w => by go_simp; try rfl) (fun k56 w' hk hh hlt hbk => ?_)
      replace hA := hA.mkB hA.below.size hk hh hlt hbk
      clear hk hh hlt hbk
      refine hold_and hA.below (fun hS => ?_)
      try simp only [Act.put, List.setIfInBounds_toArray, List.set_cons_zero, List.set_cons_succ]
      refine wpH_op 8 (oi := { dst := some 61, op := Op.makeSlice 35 (Operand.tmp 60) (Operand.tmp 60), type := 35, pos := "theorems.go:104", after := #[{ on := 7, ground := Ground.data }, { on := 7, ground := Ground.data }], guard := none }) rfl (by kernel_rfl) (by rfl) ?_
      refine wp_newK 49 (madeCells #[.int .i64 (0), .int .i64 (0)] (l.length * 2)) (fun k => .slice (some ⟨k, 0, none⟩) l.length l.length) (fun w => by go_simp; try rfl) (fun k61 w' hk hh hlt hbk => ?_)
      replace hA := hA.mkD hA.below.size (by omega) hk hh hlt hbk
      clear hk hh hlt hbk
      refine hold_and hA.below (fun hS => ?_)
      try simp only [Act.put, List.setIfInBounds_toArray, List.set_cons_zero, List.set_cons_succ]
      (refine wpH_pure 9 ?_ (oi := { dst := some 62, op := Op.build 37 #[(0, Operand.tmp 54), (1, Operand.tmp 55), (2, Operand.tmp 56), (3, Operand.tmp 57), (4, Operand.tmp 61)], type := 37, pos := "theorems.go:104", after := #[{ on := 1, ground := Ground.data }, { on := 2, ground := Ground.data }, { on := 3, ground := Ground.data }, { on := 4, ground := Ground.data }, { on := 8, ground := Ground.data }], guard := none }) rfl (by kernel_rfl) (by kernel_rfl) (by kernel_rfl) (by rfl) hS (fun _ _ _ h => h) ?_ ?_; rotate_left; focus (intro w; go_simp; try with_reducible rfl))
      try simp only [Act.put, List.setIfInBounds_toArray, List.set_cons_zero, List.set_cons_succ]
      refine wpH_op 10 (oi := { dst := some 63, op := Op.box 37 (Operand.tmp 62), type := 32, pos := "theorems.go:104", after := #[{ on := 9, ground := Ground.data }], guard := none }) rfl (by kernel_rfl) (by rfl) ?_
      refine wp_newK 37 #[.slice ma l.length mc, .slice (some ⟨k55, 0, none⟩) 1 1, .slice (some ⟨k56, 0, none⟩) 1 1, .slice (some ⟨k57, 0, none⟩) 1 1, .slice (some ⟨k61, 0, none⟩) l.length l.length] (fun k => .pointer (some ⟨k, 0, none⟩)) (fun w => by go_simp; try rfl) (fun k63 w' hk hh hlt hbk => ?_)
      have hp1 := Nat.le_trans hA.below.size hk
      have hp3 := Nat.ne_of_lt (Nat.lt_of_lt_of_le (hA.fa _ rfl).2.2 hk)
      have hp4 := Nat.ne_of_lt (Nat.lt_of_lt_of_le (hA.fb _ rfl).2.2 hk)
      have hp5 := Nat.ne_of_lt (Nat.lt_of_lt_of_le (hA.fc _ rfl).2.2 hk)
      have hp6 := Nat.ne_of_lt (Nat.lt_of_lt_of_le (hA.fd _ rfl).2.2 hk)
      have hp2 := Blk.of_heap hh hlt
      replace hA := hA.keep hA.below.size hbk
      refine hold_and hA.below (fun hS => ?_)
      try simp only [Act.put, List.setIfInBounds_toArray, List.set_cons_zero, List.set_cons_succ]
      (refine wpH_pure 11 ?_ (oi := { dst := some 3, op := Op.assign (Operand.tmp 63), type := 32, pos := "theorems.go:104", after := #[{ on := 10, ground := Ground.data }, { on := 0, ground := Ground.phase }, { on := 1, ground := Ground.phase }, { on := 2, ground := Ground.phase }, { on := 3, ground := Ground.phase }, { on := 4, ground := Ground.phase }, { on := 5, ground := Ground.phase }, { on := 6, ground := Ground.phase }, { on := 7, ground := Ground.phase }, { on := 8, ground := Ground.phase }, { on := 9, ground := Ground.phase }, { on := 10, ground := Ground.phase }], guard := none }) rfl (by kernel_rfl) (by kernel_rfl) (by kernel_rfl) (by rfl) hS (fun _ _ _ h => h) ?_ ?_; rotate_left; focus (intro w; go_simp; try with_reducible rfl))
      try simp only [Act.put, List.setIfInBounds_toArray, List.set_cons_zero, List.set_cons_succ]
      refine wpAnyH_done (by kernel_rfl) ?_ _
      unfold NormQ
      refine ⟨⟨_, _, _, _, _⟩, ?_, hA, hp1, hp2, hp3, hp4, hp5, hp6⟩
      (try simp only [Act.put, List.setIfInBounds_toArray, List.set_cons_zero, List.set_cons_succ])
      refine wpO_op (oi := { dst := some 61, op := Op.makeSlice 35 (Operand.tmp 60) (Operand.tmp 60), type := 35, pos := "theorems.go:104", after := #[{ on := 7, ground := Ground.data }, { on := 7, ground := Ground.data }], guard := none }) rfl (by rfl) ?_
      refine wp_newK 49 (madeCells #[.int .i64 (0), .int .i64 (0)] (l.length * 2)) (fun k => .slice (some ⟨k, 0, none⟩) l.length l.length) (fun w => by go_simp; try rfl) (fun k61 w' hk hh hlt hbk => ?_)
      replace hA := hA.mkD hA.below.size (by omega) hk hh hlt hbk
      clear hk hh hlt hbk
      refine hold_and hA.below (fun hS => ?_)
      try simp only [Act.put, List.setIfInBounds_toArray, List.set_cons_zero, List.set_cons_succ]
      refine wpH_op 3 (oi := { dst := some 56, op := Op.buildSlice 33 1 #[(0, Operand.const (Value.int IntKind.i64 0))], type := 33, pos := "theorems.go:104", after := #[], guard := none }) rfl (by kernel_rfl) (by rfl) ?_
      refine wp_newK 3 #[.int .i64 (0)] (fun k => .slice (some ⟨k, 0, none⟩) 1 1) (fun w => by go_simp; try rfl) (fun k56 w' hk hh hlt hbk => ?_)
      replace hA := hA.mkB hA.below.size hk hh hlt hbk
      clear hk hh hlt hbk
      refine hold_and hA.below (fun hS => ?_)
      try simp only [Act.put, List.setIfInBounds_toArray, List.set_cons_zero, List.set_cons_succ]
      (refine wpH_pure 9 ?_ (oi := { dst := some 62, op := Op.build 37 #[(0, Operand.tmp 54), (1, Operand.tmp 55), (2, Operand.tmp 56), (3, Operand.tmp 57), (4, Operand.tmp 61)], type := 37, pos := "theorems.go:104", after := #[{ on := 1, ground := Ground.data }, { on := 2, ground := Ground.data }, { on := 3, ground := Ground.data }, { on := 4, ground := Ground.data }, { on := 8, ground := Ground.data }], guard := none }) rfl (by kernel_rfl) (by kernel_rfl) (by kernel_rfl) (by rfl) hS (fun _ _ _ h => h) ?_ ?_; rotate_left; focus (intro w; go_simp; try with_reducible rfl))
      try simp only [Act.put, List.setIfInBounds_toArray, List.set_cons_zero, List.set_cons_succ]
      refine wpH_op 10 (oi := { dst := some 63, op := Op.box 37 (Operand.tmp 62), type := 32, pos := "theorems.go:104", after := #[{ on := 9, ground := Ground.data }], guard := none }) rfl (by kernel_rfl) (by rfl) ?_
      refine wp_newK 37 #[.slice ma l.length mc, .slice (some ⟨k55, 0, none⟩) 1 1, .slice (some ⟨k56, 0, none⟩) 1 1, .slice (some ⟨k57, 0, none⟩) 1 1, .slice (some ⟨k61, 0, none⟩) l.length l.length] (fun k => .pointer (some ⟨k, 0, none⟩)) (fun w => by go_simp; try rfl) (fun k63 w' hk hh hlt hbk => ?_)
      have hp1 := Nat.le_trans hA.below.size hk
      have hp3 := Nat.ne_of_lt (Nat.lt_of_lt_of_le (hA.fa _ rfl).2.2 hk)
      have hp4 := Nat.ne_of_lt (Nat.lt_of_lt_of_le (hA.fb _ rfl).2.2 hk)
      have hp5 := Nat.ne_of_lt (Nat.lt_of_lt_of_le (hA.fc _ rfl).2.2 hk)
      have hp6 := Nat.ne_of_lt (Nat.lt_of_lt_of_le (hA.fd _ rfl).2.2 hk)
      have hp2 := Blk.of_heap hh hlt
      replace hA := hA.keep hA.below.size hbk
      refine hold_and hA.below (fun hS => ?_)
      try simp only [Act.put, List.setIfInBounds_toArray, List.set_cons_zero, List.set_cons_succ]
      (refine wpH_pure 11 ?_ (oi := { dst := some 3, op := Op.assign (Operand.tmp 63), type := 32, pos := "theorems.go:104", after := #[{ on := 10, ground := Ground.data }, { on := 0, ground := Ground.phase }, { on := 1, ground := Ground.phase }, { on := 2, ground := Ground.phase }, { on := 3, ground := Ground.phase }, { on := 4, ground := Ground.phase }, { on := 5, ground := Ground.phase }, { on := 6, ground := Ground.phase }, { on := 7, ground := Ground.phase }, { on := 8, ground := Ground.phase }, { on := 9, ground := Ground.phase }, { on := 10, ground := Ground.phase }], guard := none }) rfl (by kernel_rfl) (by kernel_rfl) (by kernel_rfl) (by rfl) hS (fun _ _ _ h => h) ?_ ?_; rotate_left; focus (intro w; go_simp; try with_reducible rfl))
      try simp only [Act.put, List.setIfInBounds_toArray, List.set_cons_zero, List.set_cons_succ]
      refine wpAnyH_done (by kernel_rfl) ?_ _
      unfold NormQ
      refine ⟨⟨_, _, _, _, _⟩, ?_, hA, hp1, hp2, hp3, hp4, hp5, hp6⟩
      (try simp only [Act.put, List.setIfInBounds_toArray, List.set_cons_zero, List.set_cons_succ])
      refine wpO_op (oi := { dst := some 56, op := Op.buildSlice 33 1 #[(0, Operand.const (Value.int IntKind.i64 0))], type := 33, pos := "theorems.go:104", after := #[], guard := none }) rfl (by rfl) ?_
      refine wp_newK 3 #[.int .i64 (0)] (fun k => .slice (some ⟨k, 0, none⟩) 1 1) (fun w => by go_simp; try rfl) (fun k56 w' hk hh hlt hbk => ?_)
      replace hA := hA.mkB hA.below.size hk hh hlt hbk
      clear hk hh hlt hbk
      refine hold_and hA.below (fun hS => ?_)
      try simp only [Act.put, List.setIfInBounds_toArray, List.set_cons_zero, List.set_cons_succ]
      refine wpAnyH_all (rs := [2, 8]) (by kernel_rfl) (by simp) (fun jj hjj => ?_)
      simp only [List.mem_cons, List.not_mem_nil, or_false] at hjj
      rcases hjj with rfl | rfl
      refine wpO_op (oi := { dst := some 55, op := Op.buildSlice 33 1 #[(0, Operand.const (Value.int IntKind.i64 0))], type := 33, pos := "theorems.go:104", after := #[], guard := none }) rfl (by rfl) ?_
      refine wp_newK 3 #[.int .i64 (0)] (fun k => .slice (some ⟨k, 0, none⟩) 1 1) (fun w => by go_simp; try rfl) (fun k55 w' hk hh hlt hbk => ?_)
      replace hA := hA.mkA hA.below.size hk hh hlt hbk
      clear hk hh hlt hbk
      refine hold_and hA.below (fun hS => ?_)
      try simp only [Act.put, List.setIfInBounds_toArray, List.set_cons_zero, List.set_cons_succ]
      refine wpH_op 8 (oi := { dst := some 61, op := Op.makeSlice 35 (Operand.tmp 60) (Operand.tmp 60), type := 35, pos := "theorems.go:104", after := #[{ on := 7, ground := Ground.data }, { on := 7, ground := Ground.data }], guard := none }) rfl (by kernel_rfl) (by rfl) ?_
      refine wp_newK 49 (madeCells #[.int .i64 (0), .int .i64 (0)] (l.length * 2)) (fun k => .slice (some ⟨k, 0, none⟩) l.length l.length) (fun w => by go_simp; try rfl) (fun k61 w' hk hh hlt hbk => ?_)
      replace hA := hA.mkD hA.below.size (by omega) hk hh hlt hbk
      clear hk hh hlt hbk
      refine hold_and hA.below (fun hS => ?_)
      try simp only [Act.put, List.setIfInBounds_toArray, List.set_cons_zero, List.set_cons_succ]
      (refine wpH_pure 9 ?_ (oi := { dst := some 62, op := Op.build 37 #[(0, Operand.tmp 54), (1, Operand.tmp 55), (2, Operand.tmp 56), (3, Operand.tmp 57), (4, Operand.tmp 61)], type := 37, pos := "theorems.go:104", after := #[{ on := 1, ground := Ground.data }, { on := 2, ground := Ground.data }, { on := 3, ground := Ground.data }, { on := 4, ground := Ground.data }, { on := 8, ground := Ground.data }], guard := none }) rfl (by kernel_rfl) (by kernel_rfl) (by kernel_rfl) (by rfl) hS (fun _ _ _ h => h) ?_ ?_; rotate_left; focus (intro w; go_simp; try with_reducible rfl))
      try simp only [Act.put, List.setIfInBounds_toArray, List.set_cons_zero, List.set_cons_succ]
      refine wpH_op 10 (oi := { dst := some 63, op := Op.box 37 (Operand.tmp 62), type := 32, pos := "theorems.go:104", after := #[{ on := 9, ground := Ground.data }], guard := none }) rfl (by kernel_rfl) (by rfl) ?_
      refine wp_newK 37 #[.slice ma l.length mc, .slice (some ⟨k55, 0, none⟩) 1 1, .slice (some ⟨k56, 0, none⟩) 1 1, .slice (some ⟨k57, 0, none⟩) 1 1, .slice (some ⟨k61, 0, none⟩) l.length l.length] (fun k => .pointer (some ⟨k, 0, none⟩)) (fun w => by go_simp; try rfl) (fun k63 w' hk hh hlt hbk => ?_)
      have hp1 := Nat.le_trans hA.below.size hk
      have hp3 := Nat.ne_of_lt (Nat.lt_of_lt_of_le (hA.fa _ rfl).2.2 hk)
      have hp4 := Nat.ne_of_lt (Nat.lt_of_lt_of_le (hA.fb _ rfl).2.2 hk)
      have hp5 := Nat.ne_of_lt (Nat.lt_of_lt_of_le (hA.fc _ rfl).2.2 hk)
      have hp6 := Nat.ne_of_lt (Nat.lt_of_lt_of_le (hA.fd _ rfl).2.2 hk)
      have hp2 := Blk.of_heap hh hlt
      replace hA := hA.keep hA.below.size hbk
      refine hold_and hA.below (fun hS => ?_)
      try simp only [Act.put, List.setIfInBounds_toArray, List.set_cons_zero, List.set_cons_succ]
      (refine wpH_pure 11 ?_ (oi := { dst := some 3, op := Op.assign (Operand.tmp 63), type := 32, pos := "theorems.go:104", after := #[{ on := 10, ground := Ground.data }, { on := 0, ground := Ground.phase }, { on := 1, ground := Ground.phase }, { on := 2, ground := Ground.phase }, { on := 3, ground := Ground.phase }, { on := 4, ground := Ground.phase }, { on := 5, ground := Ground.phase }, { on := 6, ground := Ground.phase }, { on := 7, ground := Ground.phase }, { on := 8, ground := Ground.phase }, { on := 9, ground := Ground.phase }, { on := 10, ground := Ground.phase }], guard := none }) rfl (by kernel_rfl) (by kernel_rfl) (by kernel_rfl) (by rfl) hS (fun _ _ _ h => h) ?_ ?_; rotate_left; focus (intro w; go_simp; try with_reducible rfl))
      try simp only [Act.put, List.setIfInBounds_toArray, List.set_cons_zero, List.set_cons_succ]
      refine wpAnyH_done (by kernel_rfl) ?_ _
      unfold NormQ
      refine ⟨⟨_, _, _, _, _⟩, ?_, hA, hp1, hp2, hp3, hp4, hp5, hp6⟩
      (try simp only [Act.put, List.setIfInBounds_toArray, List.set_cons_zero, List.set_cons_succ])
      refine wpO_op (oi := { dst := some 61, op := Op.makeSlice 35 (Operand.tmp 60) (Operand.tmp 60), type := 35, pos := "theorems.go:104", after := #[{ on := 7, ground := Ground.data }, { on := 7, ground := Ground.data }], guard := none }) rfl (by rfl) ?_
      refine wp_newK 49 (madeCells #[.int .i64 (0), .int .i64 (0)] (l.length * 2)) (fun k => .slice (some ⟨k, 0, none⟩) l.length l.length) (fun w => by go_simp; try rfl) (fun k61 w' hk hh hlt hbk => ?_)
      replace hA := hA.mkD hA.below.size (by omega) hk hh hlt hbk
      clear hk hh hlt hbk
      refine hold_and hA.below (fun hS => ?_)
      try simp only [Act.put, List.setIfInBounds_toArray, List.set_cons_zero, List.set_cons_succ]
      refine wpH_op 2 (oi := { dst := some 55, op := Op.buildSlice 33 1 #[(0, Operand.const (Value.int IntKind.i64 0))], type := 33, pos := "theorems.go:104", after := #[], guard := none }) rfl (by kernel_rfl) (by rfl) ?_
      refine wp_newK 3 #[.int .i64 (0)] (fun k => .slice (some ⟨k, 0, none⟩) 1 1) (fun w => by go_simp; try rfl) (fun k55 w' hk hh hlt hbk => ?_)
      replace hA := hA.mkA hA.below.size hk hh hlt hbk
      clear hk hh hlt hbk
      refine hold_and hA.below (fun hS => ?_)
      try simp only [Act.put, List.setIfInBounds_toArray, List.set_cons_zero, List.set_cons_succ]
      (refine wpH_pure 9 ?_ (oi := { dst := some 62, op := Op.build 37 #[(0, Operand.tmp 54), (1, Operand.tmp 55), (2, Operand.tmp 56), (3, Operand.tmp 57), (4, Operand.tmp 61)], type := 37, pos := "theorems.go:104", after := #[{ on := 1, ground := Ground.data }, { on := 2, ground := Ground.data }, { on := 3, ground := Ground.data }, { on := 4, ground := Ground.data }, { on := 8, ground := Ground.data }], guard := none }) rfl (by kernel_rfl) (by kernel_rfl) (by kernel_rfl) (by rfl) hS (fun _ _ _ h => h) ?_ ?_; rotate_left; focus (intro w; go_simp; try with_reducible rfl))
      try simp only [Act.put, List.setIfInBounds_toArray, List.set_cons_zero, List.set_cons_succ]
      refine wpH_op 10 (oi := { dst := some 63, op := Op.box 37 (Operand.tmp 62), type := 32, pos := "theorems.go:104", after := #[{ on := 9, ground := Ground.data }], guard := none }) rfl (by kernel_rfl) (by rfl) ?_
      refine wp_newK 37 #[.slice ma l.length mc, .slice (some ⟨k55, 0, none⟩) 1 1, .slice (some ⟨k56, 0, none⟩) 1 1, .slice (some ⟨k57, 0, none⟩) 1 1, .slice (some ⟨k61, 0, none⟩) l.length l.length] (fun k => .pointer (some ⟨k, 0, none⟩)) (fun w => by go_simp; try rfl) (fun k63 w' hk hh hlt hbk => ?_)
      have hp1 := Nat.le_trans hA.below.size hk
      have hp3 := Nat.ne_of_lt (Nat.lt_of_lt_of_le (hA.fa _ rfl).2.2 hk)
      have hp4 := Nat.ne_of_lt (Nat.lt_of_lt_of_le (hA.fb _ rfl).2.2 hk)
      have hp5 := Nat.ne_of_lt (Nat.lt_of_lt_of_le (hA.fc _ rfl).2.2 hk)
      have hp6 := Nat.ne_of_lt (Nat.lt_of_lt_of_le (hA.fd _ rfl).2.2 hk)
      have hp2 := Blk.of_heap hh hlt
      replace hA := hA.keep hA.below.size hbk
      refine hold_and hA.below (fun hS => ?_)
      try simp only [Act.put, List.setIfInBounds_toArray, List.set_cons_zero, List.set_cons_succ]
      (refine wpH_pure 11 ?_ (oi := { dst := some 3, op := Op.assign (Operand.tmp 63), type := 32, pos := "theorems.go:104", after := #[{ on := 10, ground := Ground.data }, { on := 0, ground := Ground.phase }, { on := 1, ground := Ground.phase }, { on := 2, ground := Ground.phase }, { on := 3, ground := Ground.phase }, { on := 4, ground := Ground.phase }, { on := 5, ground := Ground.phase }, { on := 6, ground := Ground.phase }, { on := 7, ground := Ground.phase }, { on := 8, ground := Ground.phase }, { on := 9, ground := Ground.phase }, { on := 10, ground := Ground.phase }], guard := none }) rfl (by kernel_rfl) (by kernel_rfl) (by kernel_rfl) (by rfl) hS (fun _ _ _ h => h) ?_ ?_; rotate_left; focus (intro w; go_simp; try with_reducible rfl))
      try simp only [Act.put, List.setIfInBounds_toArray, List.set_cons_zero, List.set_cons_succ]
      refine wpAnyH_done (by kernel_rfl) ?_ _
      unfold NormQ
      refine ⟨⟨_, _, _, _, _⟩, ?_, hA, hp1, hp2, hp3, hp4, hp5, hp6⟩
      (try simp only [Act.put, List.setIfInBounds_toArray, List.set_cons_zero, List.set_cons_succ])
      refine wpO_op (oi := { dst := some 61, op := Op.makeSlice 35 (Operand.tmp 60) (Operand.tmp 60), type := 35, pos := "theorems.go:104", after := #[{ on := 7, ground := Ground.data }, { on := 7, ground := Ground.data }], guard := none }) rfl (by rfl) ?_
      refine wp_newK 49 (madeCells #[.int .i64 (0), .int .i64 (0)] (l.length * 2)) (fun k => .slice (some ⟨k, 0, none⟩) l.length l.length) (fun w => by go_simp; try rfl) (fun k61 w' hk hh hlt hbk => ?_)
      replace hA := hA.mkD hA.below.size (by omega) hk hh hlt hbk
      clear hk hh hlt hbk
      refine hold_and hA.below (fun hS => ?_)
      try simp only [Act.put, List.setIfInBounds_toArray, List.set_cons_zero, List.set_cons_succ]
      refine wpAnyH_all (rs := [2, 3]) (by kernel_rfl) (by simp) (fun jj hjj => ?_)
      simp only [List.mem_cons, List.not_mem_nil, or_false] at hjj
      rcases hjj with rfl | rfl
      refine wpO_op (oi := { dst := some 55, op := Op.buildSlice 33 1 #[(0, Operand.const (Value.int IntKind.i64 0))], type := 33, pos := "theorems.go:104", after := #[], guard := none }) rfl (by rfl) ?_
      refine wp_newK 3 #[.int .i64 (0)] (fun k => .slice (some ⟨k, 0, none⟩) 1 1) (fun w => by go_simp; try rfl) (fun k55 w' hk hh hlt hbk => ?_)
      replace hA := hA.mkA hA.below.size hk hh hlt hbk
      clear hk hh hlt hbk
      refine hold_and hA.below (fun hS => ?_)
      try simp only [Act.put, List.setIfInBounds_toArray, List.set_cons_zero, List.set_cons_succ]
      refine wpH_op 3 (oi := { dst := some 56, op := Op.buildSlice 33 1 #[(0, Operand.const (Value.int IntKind.i64 0))], type := 33, pos := "theorems.go:104", after := #[], guard := none }) rfl (by kernel_rfl) (by rfl) ?_
      refine wp_newK 3 #[.int .i64 (0)] (fun k => .slice (some ⟨k, 0, none⟩) 1 1) (fun w => by go_simp; try rfl) (fun k56 w' hk hh hlt hbk => ?_)
      replace hA := hA.mkB hA.below.size hk hh hlt hbk
      clear hk hh hlt hbk
      refine hold_and hA.below (fun hS => ?_)
      try simp only [Act.put, List.setIfInBounds_toArray, List.set_cons_zero, List.set_cons_succ]
      (refine wpH_pure 9 ?_ (oi := { dst := some 62, op := Op.build 37 #[(0, Operand.tmp 54), (1, Operand.tmp 55), (2, Operand.tmp 56), (3, Operand.tmp 57), (4, Operand.tmp 61)], type := 37, pos := "theorems.go:104", after := #[{ on := 1, ground := Ground.data }, { on := 2, ground := Ground.data }, { on := 3, ground := Ground.data }, { on := 4, ground := Ground.data }, { on := 8, ground := Ground.data }], guard := none }) rfl (by kernel_rfl) (by kernel_rfl) (by kernel_rfl) (by rfl) hS (fun _ _ _ h => h) ?_ ?_; rotate_left; focus (intro w; go_simp; try with_reducible rfl))
      try simp only [Act.put, List.setIfInBounds_toArray, List.set_cons_zero, List.set_cons_succ]
      refine wpH_op 10 (oi := { dst := some 63, op := Op.box 37 (Operand.tmp 62), type := 32, pos := "theorems.go:104", after := #[{ on := 9, ground := Ground.data }], guard := none }) rfl (by kernel_rfl) (by rfl) ?_
      refine wp_newK 37 #[.slice ma l.length mc, .slice (some ⟨k55, 0, none⟩) 1 1, .slice (some ⟨k56, 0, none⟩) 1 1, .slice (some ⟨k57, 0, none⟩) 1 1, .slice (some ⟨k61, 0, none⟩) l.length l.length] (fun k => .pointer (some ⟨k, 0, none⟩)) (fun w => by go_simp; try rfl) (fun k63 w' hk hh hlt hbk => ?_)
      have hp1 := Nat.le_trans hA.below.size hk
      have hp3 := Nat.ne_of_lt (Nat.lt_of_lt_of_le (hA.fa _ rfl).2.2 hk)
      have hp4 := Nat.ne_of_lt (Nat.lt_of_lt_of_le (hA.fb _ rfl).2.2 hk)
      have hp5 := Nat.ne_of_lt (Nat.lt_of_lt_of_le (hA.fc _ rfl).2.2 hk)
      have hp6 := Nat.ne_of_lt (Nat.lt_of_lt_of_le (hA.fd _ rfl).2.2 hk)
      have hp2 := Blk.of_heap hh hlt
      replace hA := hA.keep hA.below.size hbk
      refine hold_and hA.below (fun hS => ?_)
      try simp only [Act.put, List.setIfInBounds_toArray, List.set_cons_zero, List.set_cons_succ]
      (refine wpH_pure 11 ?_ (oi := { dst := some 3, op := Op.assign (Operand.tmp 63), type := 32, pos := "theorems.go:104", after := #[{ on := 10, ground := Ground.data }, { on := 0, ground := Ground.phase }, { on := 1, ground := Ground.phase }, { on := 2, ground := Ground.phase }, { on := 3, ground := Ground.phase }, { on := 4, ground := Ground.phase }, { on := 5, ground := Ground.phase }, { on := 6, ground := Ground.phase }, { on := 7, ground := Ground.phase }, { on := 8, ground := Ground.phase }, { on := 9, ground := Ground.phase }, { on := 10, ground := Ground.phase }], guard := none }) rfl (by kernel_rfl) (by kernel_rfl) (by kernel_rfl) (by rfl) hS (fun _ _ _ h => h) ?_ ?_; rotate_left; focus (intro w; go_simp; try with_reducible rfl))
      try simp only [Act.put, List.setIfInBounds_toArray, List.set_cons_zero, List.set_cons_succ]
      refine wpAnyH_done (by kernel_rfl) ?_ _
      unfold NormQ
      refine ⟨⟨_, _, _, _, _⟩, ?_, hA, hp1, hp2, hp3, hp4, hp5, hp6⟩
      (try simp only [Act.put, List.setIfInBounds_toArray, List.set_cons_zero, List.set_cons_succ])
      refine wpO_op (oi := { dst := some 56, op := Op.buildSlice 33 1 #[(0, Operand.const (Value.int IntKind.i64 0))], type := 33, pos := "theorems.go:104", after := #[], guard := none }) rfl (by rfl) ?_
      refine wp_newK 3 #[.int .i64 (0)] (fun k => .slice (some ⟨k, 0, none⟩) 1 1) (fun w => by go_simp; try rfl) (fun k56 w' hk hh hlt hbk => ?_)
      replace hA := hA.mkB hA.below.size hk hh hlt hbk
      clear hk hh hlt hbk
      refine hold_and hA.below (fun hS => ?_)
      try simp only [Act.put, List.setIfInBounds_toArray, List.set_cons_zero, List.set_cons_succ]
      refine wpH_op 2 (oi := { dst := some 55, op := Op.buildSlice 33 1 #[(0, Operand.const (Value.int IntKind.i64 0))], type := 33, pos := "theorems.go:104", after := #[], guard := none }) rfl (by kernel_rfl) (by rfl) ?_
      refine wp_newK 3 #[.int .i64 (0)] (fun k => .slice (some ⟨k, 0, none⟩) 1 1) (fun w => by go_simp; try rfl) (fun k55 w' hk hh hlt hbk => ?_)
      replace hA := hA.mkA hA.below.size hk hh hlt hbk
      clear hk hh hlt hbk
      refine hold_and hA.below (fun hS => ?_)
      try simp only [Act.put, List.setIfInBounds_toArray, List.set_cons_zero, List.set_cons_succ]
      (refine wpH_pure 9 ?_ (oi := { dst := some 62, op := Op.build 37 #[(0, Operand.tmp 54), (1, Operand.tmp 55), (2, Operand.tmp 56), (3, Operand.tmp 57), (4, Operand.tmp 61)], type := 37, pos := "theorems.go:104", after := #[{ on := 1, ground := Ground.data }, { on := 2, ground := Ground.data }, { on := 3, ground := Ground.data }, { on := 4, ground := Ground.data }, { on := 8, ground := Ground.data }], guard := none }) rfl (by kernel_rfl) (by kernel_rfl) (by kernel_rfl) (by rfl) hS (fun _ _ _ h => h) ?_ ?_; rotate_left; focus (intro w; go_simp; try with_reducible rfl))
      try simp only [Act.put, List.setIfInBounds_toArray, List.set_cons_zero, List.set_cons_succ]
      refine wpH_op 10 (oi := { dst := some 63, op := Op.box 37 (Operand.tmp 62), type := 32, pos := "theorems.go:104", after := #[{ on := 9, ground := Ground.data }], guard := none }) rfl (by kernel_rfl) (by rfl) ?_
      refine wp_newK 37 #[.slice ma l.length mc, .slice (some ⟨k55, 0, none⟩) 1 1, .slice (some ⟨k56, 0, none⟩) 1 1, .slice (some ⟨k57, 0, none⟩) 1 1, .slice (some ⟨k61, 0, none⟩) l.length l.length] (fun k => .pointer (some ⟨k, 0, none⟩)) (fun w => by go_simp; try rfl) (fun k63 w' hk hh hlt hbk => ?_)
      have hp1 := Nat.le_trans hA.below.size hk
      have hp3 := Nat.ne_of_lt (Nat.lt_of_lt_of_le (hA.fa _ rfl).2.2 hk)
      have hp4 := Nat.ne_of_lt (Nat.lt_of_lt_of_le (hA.fb _ rfl).2.2 hk)
      have hp5 := Nat.ne_of_lt (Nat.lt_of_lt_of_le (hA.fc _ rfl).2.2 hk)
      have hp6 := Nat.ne_of_lt (Nat.lt_of_lt_of_le (hA.fd _ rfl).2.2 hk)
      have hp2 := Blk.of_heap hh hlt
      replace hA := hA.keep hA.below.size hbk
      refine hold_and hA.below (fun hS => ?_)
      try simp only [Act.put, List.setIfInBounds_toArray, List.set_cons_zero, List.set_cons_succ]
      (refine wpH_pure 11 ?_ (oi := { dst := some 3, op := Op.assign (Operand.tmp 63), type := 32, pos := "theorems.go:104", after := #[{ on := 10, ground := Ground.data }, { on := 0, ground := Ground.phase }, { on := 1, ground := Ground.phase }, { on := 2, ground := Ground.phase }, { on := 3, ground := Ground.phase }, { on := 4, ground := Ground.phase }, { on := 5, ground := Ground.phase }, { on := 6, ground := Ground.phase }, { on := 7, ground := Ground.phase }, { on := 8, ground := Ground.phase }, { on := 9, ground := Ground.phase }, { on := 10, ground := Ground.phase }], guard := none }) rfl (by kernel_rfl) (by kernel_rfl) (by kernel_rfl) (by rfl) hS (fun _ _ _ h => h) ?_ ?_; rotate_left; focus (intro w; go_simp; try with_reducible rfl))
      try simp only [Act.put, List.setIfInBounds_toArray, List.set_cons_zero, List.set_cons_succ]
      refine wpAnyH_done (by kernel_rfl) ?_ _
      unfold NormQ
      refine ⟨⟨_, _, _, _, _⟩, ?_, hA, hp1, hp2, hp3, hp4, hp5, hp6⟩
      (try simp only [Act.put, List.setIfInBounds_toArray, List.set_cons_zero, List.set_cons_succ])
      refine wpO_op (oi := { dst := some 61, op := Op.makeSlice 35 (Operand.tmp 60) (Operand.tmp 60), type := 35, pos := "theorems.go:104", after := #[{ on := 7, ground := Ground.data }, { on := 7, ground := Ground.data }], guard := none }) rfl (by rfl) ?_
      refine wp_newK 49 (madeCells #[.int .i64 (0), .int .i64 (0)] (l.length * 2)) (fun k => .slice (some ⟨k, 0, none⟩) l.length l.length) (fun w => by go_simp; try rfl) (fun k61 w' hk hh hlt hbk => ?_)
      replace hA := hA.mkD hA.below.size (by omega) hk hh hlt hbk
      clear hk hh hlt hbk
      refine hold_and hA.below (fun hS => ?_)
      try simp only [Act.put, List.setIfInBounds_toArray, List.set_cons_zero, List.set_cons_succ]
      refine wpAnyH_all (rs := [2, 3, 4]) (by kernel_rfl) (by simp) (fun jj hjj => ?_)
      simp only [List.mem_cons, List.not_mem_nil, or_false] at hjj
      rcases hjj with rfl | rfl | rfl
      refine wpO_op (oi := { dst := some 55, op := Op.buildSlice 33 1 #[(0, Operand.const (Value.int IntKind.i64 0))], type := 33, pos := "theorems.go:104", after := #[], guard := none }) rfl (by rfl) ?_
      refine wp_newK 3 #[.int .i64 (0)] (fun k => .slice (some ⟨k, 0, none⟩) 1 1) (fun w => by go_simp; try rfl) (fun k55 w' hk hh hlt hbk => ?_)
      replace hA := hA.mkA hA.below.size hk hh hlt hbk
      clear hk hh hlt hbk
      refine hold_and hA.below (fun hS => ?_)
      try simp only [Act.put, List.setIfInBounds_toArray, List.set_cons_zero, List.set_cons_succ]
      refine wpAnyH_all (rs := [3, 4]) (by kernel_rfl) (by simp) (fun jj hjj => ?_)
      simp only [List.mem_cons, List.not_mem_nil, or_false] at hjj
      rcases hjj with rfl | rfl
      refine wpO_op (oi := { dst := some 56, op := Op.buildSlice 33 1 #[(0, Operand.const (Value.int IntKind.i64 0))], type := 33, pos := "theorems.go:104", after := #[], guard := none }) rfl (by rfl) ?_
      refine wp_newK 3 #[.int .i64 (0)] (fun k => .slice (some ⟨k, 0, none⟩) 1 1) (fun w => by go_simp; try rfl) (fun k56 w' hk hh hlt hbk => ?_)
      replace hA := hA.mkB hA.below.size hk hh hlt hbk
      clear hk hh hlt hbk
      refine hold_and hA.below (fun hS => ?_)
      try simp only [Act.put, List.setIfInBounds_toArray, List.set_cons_zero, List.set_cons_succ]
      refine wpH_op 4 (oi := { dst := some 57, op := Op.buildSlice 34 1 #[(0, Operand.const (Value.slice none 0 0))], type := 34, pos := "theorems.go:104", after := #[], guard := none }) rfl (by kernel_rfl) (by rfl) ?_
      refine wp_newK 23 #[nilS] (fun k => .slice (some ⟨k, 0, none⟩) 1 1) (fun w => by go_simp; try rfl) (fun k57 w' hk hh hlt hbk => ?_)
      replace hA := hA.mkC hA.below.size hk hh hlt hbk
      clear hk hh hlt hbk
      refine hold_and hA.below (fun hS => ?_)
      try simp only [Act.put, List.setIfInBounds_toArray, List.set_cons_zero, List.set_cons_succ]
      (refine wpH_pure 9 ?_ (oi := { dst := some 62, op := Op.build 37 #[(0, Operand.tmp 54), (1, Operand.tmp 55), (2, Operand.tmp 56), (3, Operand.tmp 57), (4, Operand.tmp 61)], type := 37, pos := "theorems.go:104", after := #[{ on := 1, ground := Ground.data }, { on := 2, ground := Ground.data }, { on := 3, ground := Ground.data }, { on := 4, ground := Ground.data }, { on := 8, ground := Ground.data }], guard := none }) rfl (by kernel_rfl) (by kernel_rfl) (by kernel_rfl) (by rfl) hS (fun _ _ _ h => h) ?_ ?_; rotate_left; focus (intro w; go_simp; try with_reducible rfl))
      try simp only [Act.put, List.setIfInBounds_toArray, List.set_cons_zero, List.set_cons_succ]
      refine wpH_op 10 (oi := { dst := some 63, op := Op.box 37 (Operand.tmp 62), type := 32, pos := "theorems.go:104", after := #[{ on := 9, ground := Ground.data }], guard := none }) rfl (by kernel_rfl) (by rfl) ?_
      refine wp_newK 37 #[.slice ma l.length mc, .slice (some ⟨k55, 0, none⟩) 1 1, .slice (some ⟨k56, 0, none⟩) 1 1, .slice (some ⟨k57, 0, none⟩) 1 1, .slice (some ⟨k61, 0, none⟩) l.length l.length] (fun k => .pointer (some ⟨k, 0, none⟩)) (fun w => by go_simp; try rfl) (fun k63 w' hk hh hlt hbk => ?_)
      have hp1 := Nat.le_trans hA.below.size hk
      have hp3 := Nat.ne_of_lt (Nat.lt_of_lt_of_le (hA.fa _ rfl).2.2 hk)
      have hp4 := Nat.ne_of_lt (Nat.lt_of_lt_of_le (hA.fb _ rfl).2.2 hk)
      have hp5 := Nat.ne_of_lt (Nat.lt_of_lt_of_le (hA.fc _ rfl).2.2 hk)
      have hp6 := Nat.ne_of_lt (Nat.lt_of_lt_of_le (hA.fd _ rfl).2.2 hk)
      have hp2 := Blk.of_heap hh hlt
      replace hA := hA.keep hA.below.size hbk
      refine hold_and hA.below (fun hS => ?_)
      try simp only [Act.put, List.setIfInBounds_toArray, List.set_cons_zero, List.set_cons_succ]
      (refine wpH_pure 11 ?_ (oi := { dst := some 3, op := Op.assign (Operand.tmp 63), type := 32, pos := "theorems.go:104", after := #[{ on := 10, ground := Ground.data }, { on := 0, ground := Ground.phase }, { on := 1, ground := Ground.phase }, { on := 2, ground := Ground.phase }, { on := 3, ground := Ground.phase }, { on := 4, ground := Ground.phase }, { on := 5, ground := Ground.phase }, { on := 6, ground := Ground.phase }, { on := 7, ground := Ground.phase }, { on := 8, ground := Ground.phase }, { on := 9, ground := Ground.phase }, { on := 10, ground := Ground.phase }], guard := none }) rfl (by kernel_rfl) (by kernel_rfl) (by kernel_rfl) (by rfl) hS (fun _ _ _ h => h) ?_ ?_; rotate_left; focus (intro w; go_simp; try with_reducible rfl))
      try simp only [Act.put, List.setIfInBounds_toArray, List.set_cons_zero, List.set_cons_succ]
      refine wpAnyH_done (by kernel_rfl) ?_ _
      unfold NormQ
      refine ⟨⟨_, _, _, _, _⟩, ?_, hA, hp1, hp2, hp3, hp4, hp5, hp6⟩
      (try simp only [Act.put, List.setIfInBounds_toArray, List.set_cons_zero, List.set_cons_succ])
      refine wpO_op (oi := { dst := some 57, op := Op.buildSlice 34 1 #[(0, Operand.const (Value.slice none 0 0))], type := 34, pos := "theorems.go:104", after := #[], guard := none }) rfl (by rfl) ?_
      refine wp_newK 23 #[nilS] (fun k => .slice (some ⟨k, 0, none⟩) 1 1) (fun w => by go_simp; try rfl) (fun k57 w' hk hh hlt hbk => ?_)
      replace hA := hA.mkC hA.below.size hk hh hlt hbk
      clear hk hh hlt hbk
      refine hold_and hA.below (fun hS => ?_)
      try simp only [Act.put, List.setIfInBounds_toArray, List.set_cons_zero, List.set_cons_succ]
      refine wpH_op 3 (oi := { dst := some 56, op := Op.buildSlice 33 1 #[(0, Operand.const (Value.int IntKind.i64 0))], type := 33, pos := "theorems.go:104", after := #[], guard := none }) rfl (by kernel_rfl) (by rfl) ?_
      refine wp_newK 3 #[.int .i64 (0)] (fun k => .slice (some ⟨k, 0, none⟩) 1 1) (fun w => by go_simp; try rfl) (fun k56 w' hk hh hlt hbk => ?_)
      replace hA := hA.mkB hA.below.size hk hh hlt hbk
      clear hk hh hlt hbk
      refine hold_and hA.below (fun hS => ?_)
      try simp only [Act.put, List.setIfInBounds_toArray, List.set_cons_zero, List.set_cons_succ]
      (refine wpH_pure 9 ?_ (oi := { dst := some 62, op := Op.build 37 #[(0, Operand.tmp 54), (1, Operand.tmp 55), (2, Operand.tmp 56), (3, Operand.tmp 57), (4, Operand.tmp 61)], type := 37, pos := "theorems.go:104", after := #[{ on := 1, ground := Ground.data }, { on := 2, ground := Ground.data }, { on := 3, ground := Ground.data }, { on := 4, ground := Ground.data }, { on := 8, ground := Ground.data }], guard := none }) rfl (by kernel_rfl) (by kernel_rfl) (by kernel_rfl) (by rfl) hS (fun _ _ _ h => h) ?_ ?_; rotate_left; focus (intro w; go_simp; try with_reducible rfl))
      try simp only [Act.put, List.setIfInBounds_toArray, List.set_cons_zero, List.set_cons_succ]
      refine wpH_op 10 (oi := { dst := some 63, op := Op.box 37 (Operand.tmp 62), type := 32, pos := "theorems.go:104", after := #[{ on := 9, ground := Ground.data }], guard := none }) rfl (by kernel_rfl) (by rfl) ?_
      refine wp_newK 37 #[.slice ma l.length mc, .slice (some ⟨k55, 0, none⟩) 1 1, .slice (some ⟨k56, 0, none⟩) 1 1, .slice (some ⟨k57, 0, none⟩) 1 1, .slice (some ⟨k61, 0, none⟩) l.length l.length] (fun k => .pointer (some ⟨k, 0, none⟩)) (fun w => by go_simp; try rfl) (fun k63 w' hk hh hlt hbk => ?_)
      have hp1 := Nat.le_trans hA.below.size hk
      have hp3 := Nat.ne_of_lt (Nat.lt_of_lt_of_le (hA.fa _ rfl).2.2 hk)
      have hp4 := Nat.ne_of_lt (Nat.lt_of_lt_of_le (hA.fb _ rfl).2.2 hk)
      have hp5 := Nat.ne_of_lt (Nat.lt_of_lt_of_le (hA.fc _ rfl).2.2 hk)
      have hp6 := Nat.ne_of_lt (Nat.lt_of_lt_of_le (hA.fd _ rfl).2.2 hk)
      have hp2 := Blk.of_heap hh hlt
      replace hA := hA.keep hA.below.size hbk
      refine hold_and hA.below (fun hS => ?_)
      try simp only [Act.put, List.setIfInBounds_toArray, List.set_cons_zero, List.set_cons_succ]
      (refine wpH_pure 11 ?_ (oi := { dst := some 3, op := Op.assign (Operand.tmp 63), type := 32, pos := "theorems.go:104", after := #[{ on := 10, ground := Ground.data }, { on := 0, ground := Ground.phase }, { on := 1, ground := Ground.phase }, { on := 2, ground := Ground.phase }, { on := 3, ground := Ground.phase }, { on := 4, ground := Ground.phase }, { on := 5, ground := Ground.phase }, { on := 6, ground := Ground.phase }, { on := 7, ground := Ground.phase }, { on := 8, ground := Ground.phase }, { on := 9, ground := Ground.phase }, { on := 10, ground := Ground.phase }], guard := none }) rfl (by kernel_rfl) (by kernel_rfl) (by kernel_rfl) (by rfl) hS (fun _ _ _ h => h) ?_ ?_; rotate_left; focus (intro w; go_simp; try with_reducible rfl))
      try simp only [Act.put, List.setIfInBounds_toArray, List.set_cons_zero, List.set_cons_succ]
      refine wpAnyH_done (by kernel_rfl) ?_ _
      unfold NormQ
      refine ⟨⟨_, _, _, _, _⟩, ?_, hA, hp1, hp2, hp3, hp4, hp5, hp6⟩
      (try simp only [Act.put, List.setIfInBounds_toArray, List.set_cons_zero, List.set_cons_succ])
      refine wpO_op (oi := { dst := some 56, op := Op.buildSlice 33 1 #[(0, Operand.const (Value.int IntKind.i64 0))], type := 33, pos := "theorems.go:104", after := #[], guard := none }) rfl (by rfl) ?_
      refine wp_newK 3 #[.int .i64 (0)] (fun k => .slice (some ⟨k, 0, none⟩) 1 1) (fun w => by go_simp; try rfl) (fun k56 w' hk hh hlt hbk => ?_)
      replace hA := hA.mkB hA.below.size hk hh hlt hbk
      clear hk hh hlt hbk
      refine hold_and hA.below (fun hS => ?_)
      try simp only [Act.put, List.setIfInBounds_toArray, List.set_cons_zero, List.set_cons_succ]
      refine wpAnyH_all (rs := [2, 4]) (by kernel_rfl) (by simp) (fun jj hjj => ?_)
      simp only [List.mem_cons, List.not_mem_nil, or_false] at hjj
      rcases hjj with rfl | rfl
      refine wpO_op (oi := { dst := some 55, op := Op.buildSlice 33 1 #[(0, Operand.const (Value.int IntKind.i64 0))], type := 33, pos := "theorems.go:104", after := #[], guard := none }) rfl (by rfl) ?_
      refine wp_newK 3 #[.int .i64 (0)] (fun k => .slice (some ⟨k, 0, none⟩) 1 1) (fun w => by go_simp; try rfl) (fun k55 w' hk hh hlt hbk => ?_)
      replace hA := hA.mkA hA.below.size hk hh hlt hbk
      clear hk hh hlt hbk
      refine hold_and hA.below (fun hS => ?_)
      try simp only [Act.put, List.setIfInBounds_toArray, List.set_cons_zero, List.set_cons_succ]
      refine wpH_op 4 (oi := { dst := some 57, op := Op.buildSlice 34 1 #[(0, Operand.const (Value.slice none 0 0))], type := 34, pos := "theorems.go:104", after := #[], guard := none }) rfl (by kernel_rfl) (by rfl) ?_
      refine wp_newK 23 #[nilS] (fun k => .slice (some ⟨k, 0, none⟩) 1 1) (fun w => by go_simp; try rfl) (fun k57 w' hk hh hlt hbk => ?_)
      replace hA := hA.mkC hA.below.size hk hh hlt hbk
      clear hk hh hlt hbk
      refine hold_and hA.below (fun hS => ?_)
      try simp only [Act.put, List.setIfInBounds_toArray, List.set_cons_zero, List.set_cons_succ]
      (refine wpH_pure 9 ?_ (oi := { dst := some 62, op := Op.build 37 #[(0, Operand.tmp 54), (1, Operand.tmp 55), (2, Operand.tmp 56), (3, Operand.tmp 57), (4, Operand.tmp 61)], type := 37, pos := "theorems.go:104", after := #[{ on := 1, ground := Ground.data }, { on := 2, ground := Ground.data }, { on := 3, ground := Ground.data }, { on := 4, ground := Ground.data }, { on := 8, ground := Ground.data }], guard := none }) rfl (by kernel_rfl) (by kernel_rfl) (by kernel_rfl) (by rfl) hS (fun _ _ _ h => h) ?_ ?_; rotate_left; focus (intro w; go_simp; try with_reducible rfl))
      try simp only [Act.put, List.setIfInBounds_toArray, List.set_cons_zero, List.set_cons_succ]
      refine wpH_op 10 (oi := { dst := some 63, op := Op.box 37 (Operand.tmp 62), type := 32, pos := "theorems.go:104", after := #[{ on := 9, ground := Ground.data }], guard := none }) rfl (by kernel_rfl) (by rfl) ?_
      refine wp_newK 37 #[.slice ma l.length mc, .slice (some ⟨k55, 0, none⟩) 1 1, .slice (some ⟨k56, 0, none⟩) 1 1, .slice (some ⟨k57, 0, none⟩) 1 1, .slice (some ⟨k61, 0, none⟩) l.length l.length] (fun k => .pointer (some ⟨k, 0, none⟩)) (fun w => by go_simp; try rfl) (fun k63 w' hk hh hlt hbk => ?_)
      have hp1 := Nat.le_trans hA.below.size hk
      have hp3 := Nat.ne_of_lt (Nat.lt_of_lt_of_le (hA.fa _ rfl).2.2 hk)
      have hp4 := Nat.ne_of_lt (Nat.lt_of_lt_of_le (hA.fb _ rfl).2.2 hk)
      have hp5 := Nat.ne_of_lt (Nat.lt_of_lt_of_le (hA.fc _ rfl).2.2 hk)
      have hp6 := Nat.ne_of_lt (Nat.lt_of_lt_of_le (hA.fd _ rfl).2.2 hk)
      have hp2 := Blk.of_heap hh hlt
      replace hA := hA.keep hA.below.size hbk
      refine hold_and hA.below (fun hS => ?_)
      try simp only [Act.put, List.setIfInBounds_toArray, List.set_cons_zero, List.set_cons_succ]
      (refine wpH_pure 11 ?_ (oi := { dst := some 3, op := Op.assign (Operand.tmp 63), type := 32, pos := "theorems.go:104", after := #[{ on := 10, ground := Ground.data }, { on := 0, ground := Ground.phase }, { on := 1, ground := Ground.phase }, { on := 2, ground := Ground.phase }, { on := 3, ground := Ground.phase }, { on := 4, ground := Ground.phase }, { on := 5, ground := Ground.phase }, { on := 6, ground := Ground.phase }, { on := 7, ground := Ground.phase }, { on := 8, ground := Ground.phase }, { on := 9, ground := Ground.phase }, { on := 10, ground := Ground.phase }], guard := none }) rfl (by kernel_rfl) (by kernel_rfl) (by kernel_rfl) (by rfl) hS (fun _ _ _ h => h) ?_ ?_; rotate_left; focus (intro w; go_simp; try with_reducible rfl))
      try simp only [Act.put, List.setIfInBounds_toArray, List.set_cons_zero, List.set_cons_succ]
      refine wpAnyH_done (by kernel_rfl) ?_ _
      unfold NormQ
      refine ⟨⟨_, _, _, _, _⟩, ?_, hA, hp1, hp2, hp3, hp4, hp5, hp6⟩
      (try simp only [Act.put, List.setIfInBounds_toArray, List.set_cons_zero, List.set_cons_succ])
      refine wpO_op (oi := { dst := some 57, op := Op.buildSlice 34 1 #[(0, Operand.const (Value.slice none 0 0))], type := 34, pos := "theorems.go:104", after := #[], guard := none }) rfl (by rfl) ?_
      refine wp_newK 23 #[nilS] (fun k => .slice (some ⟨k, 0, none⟩) 1 1) (fun w => by go_simp; try rfl) (fun k57 w' hk hh hlt hbk => ?_)
      replace hA := hA.mkC hA.below.size hk hh hlt hbk
      clear hk hh hlt hbk
      refine hold_and hA.below (fun hS => ?_)
      try simp only [Act.put, List.setIfInBounds_toArray, List.set_cons_zero, List.set_cons_succ]
      refine wpH_op 2 (oi := { dst := some 55, op := Op.buildSlice 33 1 #[(0, Operand.const (Value.int IntKind.i64 0))], type := 33, pos := "theorems.go:104", after := #[], guard := none }) rfl (by kernel_rfl) (by rfl) ?_
      refine wp_newK 3 #[.int .i64 (0)] (fun k => .slice (some ⟨k, 0, none⟩) 1 1) (fun w => by go_simp; try rfl) (fun k55 w' hk hh hlt hbk => ?_)
      replace hA := hA.mkA hA.below.size hk hh hlt hbk
      clear hk hh hlt hbk
      refine hold_and hA.below (fun hS => ?_)
      try simp only [Act.put, List.setIfInBounds_toArray, List.set_cons_zero, List.set_cons_succ]
      (refine wpH_pure 9 ?_ (oi := { dst := some 62, op := Op.build 37 #[(0, Operand.tmp 54), (1, Operand.tmp 55), (2, Operand.tmp 56), (3, Operand.tmp 57), (4, Operand.tmp 61)], type := 37, pos := "theorems.go:104", after := #[{ on := 1, ground := Ground.data }, { on := 2, ground := Ground.data }, { on := 3, ground := Ground.data }, { on := 4, ground := Ground.data }, { on := 8, ground := Ground.data }], guard := none }) rfl (by kernel_rfl) (by kernel_rfl) (by kernel_rfl) (by rfl) hS (fun _ _ _ h => h) ?_ ?_; rotate_left; focus (intro w; go_simp; try with_reducible rfl))
      try simp only [Act.put, List.setIfInBounds_toArray, List.set_cons_zero, List.set_cons_succ]
      refine wpH_op 10 (oi := { dst := some 63, op := Op.box 37 (Operand.tmp 62), type := 32, pos := "theorems.go:104", after := #[{ on := 9, ground := Ground.data }], guard := none }) rfl (by kernel_rfl) (by rfl) ?_
      refine wp_newK 37 #[.slice ma l.length mc, .slice (some ⟨k55, 0, none⟩) 1 1, .slice (some ⟨k56, 0, none⟩) 1 1, .slice (some ⟨k57, 0, none⟩) 1 1, .slice (some ⟨k61, 0, none⟩) l.length l.length] (fun k => .pointer (some ⟨k, 0, none⟩)) (fun w => by go_simp; try rfl) (fun k63 w' hk hh hlt hbk => ?_)
      have hp1 := Nat.le_trans hA.below.size hk
      have hp3 := Nat.ne_of_lt (Nat.lt_of_lt_of_le (hA.fa _ rfl).2.2 hk)
      have hp4 := Nat.ne_of_lt (Nat.lt_of_lt_of_le (hA.fb _ rfl).2.2 hk)
      have hp5 := Nat.ne_of_lt (Nat.lt_of_lt_of_le (hA.fc _ rfl).2.2 hk)
      have hp6 := Nat.ne_of_lt (Nat.lt_of_lt_of_le (hA.fd _ rfl).2.2 hk)
      have hp2 := Blk.of_heap hh hlt
      replace hA := hA.keep hA.below.size hbk
      refine hold_and hA.below (fun hS => ?_)
      try simp only [Act.put, List.setIfInBounds_toArray, List.set_cons_zero, List.set_cons_succ]
      (refine wpH_pure 11 ?_ (oi := { dst := some 3, op := Op.assign (Operand.tmp 63), type := 32, pos := "theorems.go:104", after := #[{ on := 10, ground := Ground.data }, { on := 0, ground := Ground.phase }, { on := 1, ground := Ground.phase }, { on := 2, ground := Ground.phase }, { on := 3, ground := Ground.phase }, { on := 4, ground := Ground.phase }, { on := 5, ground := Ground.phase }, { on := 6, ground := Ground.phase }, { on := 7, ground := Ground.phase }, { on := 8, ground := Ground.phase }, { on := 9, ground := Ground.phase }, { on := 10, ground := Ground.phase }], guard := none }) rfl (by kernel_rfl) (by kernel_rfl) (by kernel_rfl) (by rfl) hS (fun _ _ _ h => h) ?_ ?_; rotate_left; focus (intro w; go_simp; try with_reducible rfl))
      try simp only [Act.put, List.setIfInBounds_toArray, List.set_cons_zero, List.set_cons_succ]
      refine wpAnyH_done (by kernel_rfl) ?_ _
      unfold NormQ
      refine ⟨⟨_, _, _, _, _⟩, ?_, hA, hp1, hp2, hp3, hp4, hp5, hp6⟩
      (try simp only [Act.put, List.setIfInBounds_toArray, List.set_cons_zero, List.set_cons_succ])
      refine wpO_op (oi := { dst := some 57, op := Op.buildSlice 34 1 #[(0, Operand.const (Value.slice none 0 0))], type := 34, pos := "theorems.go:104", after := #[], guard := none }) rfl (by rfl) ?_
      refine wp_newK 23 #[nilS] (fun k => .slice (some ⟨k, 0, none⟩) 1 1) (fun w => by go_simp; try rfl) (fun k57 w' hk hh hlt hbk => ?_)
      replace hA := hA.mkC hA.below.size hk hh hlt hbk
      clear hk hh hlt hbk
      refine hold_and hA.below (fun hS => ?_)
      try simp only [Act.put, List.setIfInBounds_toArray, List.set_cons_zero, List.set_cons_succ]
      refine wpAnyH_all (rs := [2, 3]) (by kernel_rfl) (by simp) (fun jj hjj => ?_)
      simp only [List.mem_cons, List.not_mem_nil, or_false] at hjj
      rcases hjj with rfl | rfl
      refine wpO_op (oi := { dst := some 55, op := Op.buildSlice 33 1 #[(0, Operand.const (Value.int IntKind.i64 0))], type := 33, pos := "theorems.go:104", after := #[], guard := none }) rfl (by rfl) ?_
      refine wp_newK 3 #[.int .i64 (0)] (fun k => .slice (some ⟨k, 0, none⟩) 1 1) (fun w => by go_simp; try rfl) (fun k55 w' hk hh hlt hbk => ?_)
      replace hA := hA.mkA hA.below.size hk hh hlt hbk
      clear hk hh hlt hbk
      refine hold_and hA.below (fun hS => ?_)
      try simp only [Act.put, List.setIfInBounds_toArray, List.set_cons_zero, List.set_cons_succ]
      refine wpH_op 3 (oi := { dst := some 56, op := Op.buildSlice 33 1 #[(0, Operand.const (Value.int IntKind.i64 0))], type := 33, pos := "theorems.go:104", after := #[], guard := none }) rfl (by kernel_rfl) (by rfl) ?_
      refine wp_newK 3 #[.int .i64 (0)] (fun k => .slice (some ⟨k, 0, none⟩) 1 1) (fun w => by go_simp; try rfl) (fun k56 w' hk hh hlt hbk => ?_)
      replace hA := hA.mkB hA.below.size hk hh hlt hbk
      clear hk hh hlt hbk
      refine hold_and hA.below (fun hS => ?_)
      try simp only [Act.put, List.setIfInBounds_toArray, List.set_cons_zero, List.set_cons_succ]
      (refine wpH_pure 9 ?_ (oi := { dst := some 62, op := Op.build 37 #[(0, Operand.tmp 54), (1, Operand.tmp 55), (2, Operand.tmp 56), (3, Operand.tmp 57), (4, Operand.tmp 61)], type := 37, pos := "theorems.go:104", after := #[{ on := 1, ground := Ground.data }, { on := 2, ground := Ground.data }, { on := 3, ground := Ground.data }, { on := 4, ground := Ground.data }, { on := 8, ground := Ground.data }], guard := none }) rfl (by kernel_rfl) (by kernel_rfl) (by kernel_rfl) (by rfl) hS (fun _ _ _ h => h) ?_ ?_; rotate_left; focus (intro w; go_simp; try with_reducible rfl))
      try simp only [Act.put, List.setIfInBounds_toArray, List.set_cons_zero, List.set_cons_succ]
      refine wpH_op 10 (oi := { dst := some 63, op := Op.box 37 (Operand.tmp 62), type := 32, pos := "theorems.go:104", after := #[{ on := 9, ground := Ground.data }], guard := none }) rfl (by kernel_rfl) (by rfl) ?_
      refine wp_newK 37 #[.slice ma l.length mc, .slice (some ⟨k55, 0, none⟩) 1 1, .slice (some ⟨k56, 0, none⟩) 1 1, .slice (some ⟨k57, 0, none⟩) 1 1, .slice (some ⟨k61, 0, none⟩) l.length l.length] (fun k => .pointer (some ⟨k, 0, none⟩)) (fun w => by go_simp; try rfl) (fun k63 w' hk hh hlt hbk => ?_)
      have hp1 := Nat.le_trans hA.below.size hk
      have hp3 := Nat.ne_of_lt (Nat.lt_of_lt_of_le (hA.fa _ rfl).2.2 hk)
      have hp4 := Nat.ne_of_lt (Nat.lt_of_lt_of_le (hA.fb _ rfl).2.2 hk)
      have hp5 := Nat.ne_of_lt (Nat.lt_of_lt_of_le (hA.fc _ rfl).2.2 hk)
      have hp6 := Nat.ne_of_lt (Nat.lt_of_lt_of_le (hA.fd _ rfl).2.2 hk)
      have hp2 := Blk.of_heap hh hlt
      replace hA := hA.keep hA.below.size hbk
      refine hold_and hA.below (fun hS => ?_)
      try simp only [Act.put, List.setIfInBounds_toArray, List.set_cons_zero, List.set_cons_succ]
      (refine wpH_pure 11 ?_ (oi := { dst := some 3, op := Op.assign (Operand.tmp 63), type := 32, pos := "theorems.go:104", after := #[{ on := 10, ground := Ground.data }, { on := 0, ground := Ground.phase }, { on := 1, ground := Ground.phase }, { on := 2, ground := Ground.phase }, { on := 3, ground := Ground.phase }, { on := 4, ground := Ground.phase }, { on := 5, ground := Ground.phase }, { on := 6, ground := Ground.phase }, { on := 7, ground := Ground.phase }, { on := 8, ground := Ground.phase }, { on := 9, ground := Ground.phase }, { on := 10, ground := Ground.phase }], guard := none }) rfl (by kernel_rfl) (by kernel_rfl) (by kernel_rfl) (by rfl) hS (fun _ _ _ h => h) ?_ ?_; rotate_left; focus (intro w; go_simp; try with_reducible rfl))
      try simp only [Act.put, List.setIfInBounds_toArray, List.set_cons_zero, List.set_cons_succ]
      refine wpAnyH_done (by kernel_rfl) ?_ _
      unfold NormQ
      refine ⟨⟨_, _, _, _, _⟩, ?_, hA, hp1, hp2, hp3, hp4, hp5, hp6⟩
      (try simp only [Act.put, List.setIfInBounds_toArray, List.set_cons_zero, List.set_cons_succ])
      refine wpO_op (oi := { dst := some 56, op := Op.buildSlice 33 1 #[(0, Operand.const (Value.int IntKind.i64 0))], type := 33, pos := "theorems.go:104", after := #[], guard := none }) rfl (by rfl) ?_
      refine wp_newK 3 #[.int .i64 (0)] (fun k => .slice (some ⟨k, 0, none⟩) 1 1) (fun w => by go_simp; try rfl) (fun k56 w' hk hh hlt hbk => ?_)
      replace hA := hA.mkB hA.below.size hk hh hlt hbk
      clear hk hh hlt hbk
      refine hold_and hA.below (fun hS => ?_)
      try simp only [Act.put, List.setIfInBounds_toArray, List.set_cons_zero, List.set_cons_succ]
      refine wpH_op 2 (oi := { dst := some 55, op := Op.buildSlice 33 1 #[(0, Operand.const (Value.int IntKind.i64 0))], type := 33, pos := "theorems.go:104", after := #[], guard := none }) rfl (by kernel_rfl) (by rfl) ?_
      refine wp_newK 3 #[.int .i64 (0)] (fun k => .slice (some ⟨k, 0, none⟩) 1 1) (fun w => by go_simp; try rfl) (fun k55 w' hk hh hlt hbk => ?_)
      replace hA := hA.mkA hA.below.size hk hh hlt hbk
      clear hk hh hlt hbk
      refine hold_and hA.below (fun hS => ?_)
      try simp only [Act.put, List.setIfInBounds_toArray, List.set_cons_zero, List.set_cons_succ]
      (refine wpH_pure 9 ?_ (oi := { dst := some 62, op := Op.build 37 #[(0, Operand.tmp 54), (1, Operand.tmp 55), (2, Operand.tmp 56), (3, Operand.tmp 57), (4, Operand.tmp 61)], type := 37, pos := "theorems.go:104", after := #[{ on := 1, ground := Ground.data }, { on := 2, ground := Ground.data }, { on := 3, ground := Ground.data }, { on := 4, ground := Ground.data }, { on := 8, ground := Ground.data }], guard := none }) rfl (by kernel_rfl) (by kernel_rfl) (by kernel_rfl) (by rfl) hS (fun _ _ _ h => h) ?_ ?_; rotate_left; focus (intro w; go_simp; try with_reducible rfl))
      try simp only [Act.put, List.setIfInBounds_toArray, List.set_cons_zero, List.set_cons_succ]
      refine wpH_op 10 (oi := { dst := some 63, op := Op.box 37 (Operand.tmp 62), type := 32, pos := "theorems.go:104", after := #[{ on := 9, ground := Ground.data }], guard := none }) rfl (by kernel_rfl) (by rfl) ?_
      refine wp_newK 37 #[.slice ma l.length mc, .slice (some ⟨k55, 0, none⟩) 1 1, .slice (some ⟨k56, 0, none⟩) 1 1, .slice (some ⟨k57, 0, none⟩) 1 1, .slice (some ⟨k61, 0, none⟩) l.length l.length] (fun k => .pointer (some ⟨k, 0, none⟩)) (fun w => by go_simp; try rfl) (fun k63 w' hk hh hlt hbk => ?_)
      have hp1 := Nat.le_trans hA.below.size hk
      have hp3 := Nat.ne_of_lt (Nat.lt_of_lt_of_le (hA.fa _ rfl).2.2 hk)
      have hp4 := Nat.ne_of_lt (Nat.lt_of_lt_of_le (hA.fb _ rfl).2.2 hk)
      have hp5 := Nat.ne_of_lt (Nat.lt_of_lt_of_le (hA.fc _ rfl).2.2 hk)
      have hp6 := Nat.ne_of_lt (Nat.lt_of_lt_of_le (hA.fd _ rfl).2.2 hk)
      have hp2 := Blk.of_heap hh hlt
      replace hA := hA.keep hA.below.size hbk
      refine hold_and hA.below (fun hS => ?_)
      try simp only [Act.put, List.setIfInBounds_toArray, List.set_cons_zero, List.set_cons_succ]
      (refine wpH_pure 11 ?_ (oi := { dst := some 3, op := Op.assign (Operand.tmp 63), type := 32, pos := "theorems.go:104", after := #[{ on := 10, ground := Ground.data }, { on := 0, ground := Ground.phase }, { on := 1, ground := Ground.phase }, { on := 2, ground := Ground.phase }, { on := 3, ground := Ground.phase }, { on := 4, ground := Ground.phase }, { on := 5, ground := Ground.phase }, { on := 6, ground := Ground.phase }, { on := 7, ground := Ground.phase }, { on := 8, ground := Ground.phase }, { on := 9, ground := Ground.phase }, { on := 10, ground := Ground.phase }], guard := none }) rfl (by kernel_rfl) (by kernel_rfl) (by kernel_rfl) (by rfl) hS (fun _ _ _ h => h) ?_ ?_; rotate_left; focus (intro w; go_simp; try with_reducible rfl))
      try simp only [Act.put, List.setIfInBounds_toArray, List.set_cons_zero, List.set_cons_succ]
      refine wpAnyH_done (by kernel_rfl) ?_ _
      unfold NormQ
      refine ⟨⟨_, _, _, _, _⟩, ?_, hA, hp1, hp2, hp3, hp4, hp5, hp6⟩
      (try simp only [Act.put, List.setIfInBounds_toArray, List.set_cons_zero, List.set_cons_succ])
  rintro ⟨p, ka, kb, kc, kd⟩ w5 ⟨hA, hp1, P5, hp3, hp4, hp5, hp6⟩
  dsimp only at hA hp1 P5 hp3 hp4 hp5 hp6 ⊢
  have hL5 : LineV w5 w3.heap.size p (.slice ma l.length mc) (.slice (some ⟨ka, 0, none⟩) 1 1) (.slice (some ⟨kb, 0, none⟩) 1 1) (.slice (some ⟨kc, 0, none⟩) 1 1) (.slice (some ⟨kd, 0, none⟩) l.length l.length) (List.replicate 1 nilS) (castP (parsP bl 0)) (viewsP bl 0) (List.replicate 1 []) (List.replicate l.length (0, 0)) := by
    refine ⟨hp1, P5, (hA.fa _ rfl).2.1, (hA.fb _ rfl).2.1, (hA.fc _ rfl).2.1, (hA.fd _ rfl).2.1, rfl, fun i hi => ?_, fun v hv => ?_, fun k h1 h2 => hA.ab _ rfl (Eq.trans (show some kb = some k from h2) (show some k = some ka from Eq.symm h1)), fun i j k hi hj hij => ?_⟩
    · have : i = 0 := by simp at hi; omega
      subst this
      exact SRow.nil _ _
    · simp only [List.replicate_succ, List.replicate_zero, List.mem_cons, List.not_mem_nil, or_false] at hv
      rcases hv with rfl | rfl | rfl | rfl | rfl
      · intro e; injection e with e; exact hp3 e
      · intro e; injection e with e; exact hp4 e
      · intro e; injection e with e; exact hp5 e
      · intro e; injection e with e; exact hp6 e
      · intro e; cases e
    · simp at hi hj; omega
  have hb5 := hA.below
  obtain ⟨base, hbase⟩ : ∃ base, base = w3.heap.size := ⟨_, rfl⟩
  have hpb := hp1
  rw [← hbase] at hL5 hb5 hpb
  have hbw3 : base ≤ w3.heap.size := by omega
  have hwb : w.heap.size ≤ base := by rw [hbase]; exact hb3.size
  have B5 : ∀ W, Below base w3 W → Blk W w.heap.size #[.slice ma l.length mc, .slice ba bad.length bc, .slice la bl.length lc, .slice va vt.length vc] := fun W h => B3.keep (by rw [hbase] at h; exact h)
  have HB5 := Lib.hid B5
  clear hA hp1 P5 hp3 hp4 hp5 hp6 hbase B3 B5 hmk
  simp only [Act.put, List.setIfInBounds_toArray, List.set_cons_zero, List.set_cons_succ]
  obtain ⟨b1, b2, b3⟩ := id (HB5.out _ hb5)
  go_wp2_with fail
  clear b1 b2 b3
  have HB3 := Lib.hid hb3
  clear hb3
  go_loopw [67, 4, 5] (fun s67 _ _ wr => ∃ (n : Nat) (pv uv tv : Value), s67 = .int .i64 (n) ∧ n ≤ bl.length ∧ LineV wr base p (.slice ma l.length mc) pv uv tv (.slice (some ⟨kd, 0, none⟩) l.length l.length) (List.replicate (n + 1) nilS) (castP (parsP bl n)) (viewsP bl n) (List.replicate (n + 1) []) (List.replicate l.length (0, 0)) ∧ Below base w3 wr) (fun s67 _ _ _ => bl.length - (intOf s67).toNat)
  case atStart => exact ⟨0, _, _, _, rfl, Nat.zero_le _, hL5, hb5⟩
  case round =>
    obtain ⟨n, pv, uv, tv, rfl, hn, hL, hbr⟩ := hrel
    clear hL5 hb5
    by_cases h1 : n < bl.length
    · have d1 : decide ((n : Int) < (bl.length : Int)) = true := by simp; omega
      have hni : 0 ≤ (n : Int) ∧ (n : Int) < (bl.length : Int) := by omega
      obtain ⟨g, off, cap, hva, hg, c0, c1⟩ := HL.out.at n h1
      injection hva with hva _ hvc
      subst hva hvc
      have hstep1 := pars_step bl n
      have hstep2 := views_step bl n
      generalize hy : bl.getD n (0, 0) = y at *
      obtain ⟨y1, y2⟩ := y
      clear hy
      simp only at c0 c1 hstep1 hstep2
      have hwr : Below w.heap.size w wr := HB3.out.trans (hbr.mono hwb)
      replace c0 := (hwr.cell (p := ⟨g, off + n * 2, none⟩) hg).trans c0
      replace c1 := (hwr.cell (p := ⟨g, off + n * 2 + 1, none⟩) hg).trans c1
      have hwn1 : IntKind.i64.wrap ((n : Int) + 1) = (n : Int) + 1 := by rw [IntKind.wrap_i64]; omega
      have hwn2 : ((n : Int) + 1) = ((n + 1 : Nat) : Int) := by omega
      as_aux_lemma =>
        obtain ⟨d, hd⟩ : ∃ d, d = ((modN y1 (n + 1) : Nat) : Int) := ⟨_, rfl⟩
        have hbel : ∀ W, Calls Try.prog 8 #[.int .i64 (y1), .int .i64 ((n : Int) + 1)] W fun e w' => e = .returned (.int .i64 (d)) ∧ w' = W := fun W => by
          have := below_any y1 (n + 1) (by omega) (by omega) W
          rw [show (((n + 1 : Nat)) : Int) = (n : Int) + 1 from by omega, ← hd] at this
          exact this
        rw [← hd] at hstep1
        clear hd hwn2
        go_wp2_with fail
        obtain ⟨pa, pc, rfl⟩ := row_form hL.prow
        obtain ⟨ua, uc, rfl⟩ := row_form hL.vrow
        obtain ⟨xa, xc, hxv⟩ := row_form hL.trow
        rw [List.length_replicate] at hxv
        subst hxv
        have hL8 := hL.keep (Below.allocS (Below.refl _ _) (.cells #[.int .i64 (y1), .int .i64 (y2)] 38))
        have K8 : Blk (wr.alloc (.cells #[.int .i64 (y1), .int .i64 (y2)] 38)) wr.heap.size #[.int .i64 (y1), .int .i64 (y2)] := Blk.new _ _ _
        have hb8 : Below base w3 (wr.alloc (.cells #[.int .i64 (y1), .int .i64 (y2)] 38)) := hbr.alloc (Nat.le_trans hbw3 hbr.size) _
        have hk8 : ∀ v : Value, (∀ k, v.ownBlock = some k → k < wr.heap.size) → wr.heap.size ∉ p :: v.ownBlock.toList := by
          intro v hv hx
          rcases List.mem_cons.1 hx with e | hx
          · have := hL.blk.lt; omega
          · have := hv _ (by simpa using hx); omega
        have hk81 := hk8 (.slice pa (castP (parsP bl n)).length pc) (fun k hk => (hL.prow.lt k hk).2)
        have hk82 := hk8 (.slice ua (viewsP bl n).length uc) (fun k hk => (hL.vrow.lt k hk).2)
        have hk8b : base ≤ wr.heap.size := Nat.le_trans hbw3 hbr.size
        clear hk8 hL hbr hwr c0 c1
        generalize wr.heap.size = k8 at *
        generalize wr.alloc (.cells #[.int .i64 (y1), .int .i64 (y2)] 38) = w8 at *
        have hw8 := Nat.le_trans hbw3 hb8.size
        have hcl2 : (viewsP bl n).length ≤ 1000 := by rw [views_len]; omega
        have hcl1 : (castP (parsP bl n)).length ≤ 1000 := by rw [castP_len, pars_len]; omega
        have hpm : ∀ x ∈ p :: (Value.slice pa (castP (parsP bl n)).length pc).ownBlock.toList, base ≤ x := by
          intro x hx
          rcases List.mem_cons.1 hx with e | hx
          · omega
          · exact (hL8.prow.lt x (by simpa using hx)).1
        refine wp_region_ex (ι := J9) (fun i a => ((((((((((((((a.put (some 72) (.pointer (some ⟨p, 0, none⟩))).put (some 73) (.pointer (some ⟨p, 0, none⟩))).put (some 74) (.pointer (some ⟨p, 0, none⟩))).put (some 75) (.pointer (some ⟨p, 1, none⟩))).put (some 76) (.slice pa (castP (parsP bl n)).length pc)).put (some 77) (.pointer (some ⟨k8, 0, none⟩))).put (some 78) (.int .i64 (y1))).put (some 79) (.int .i64 ((n : Int)))).put (some 80) (.int .i64 ((n : Int) + 1))).put (some 81) (.int .i64 (d))).put (some 82) (.slice (some ⟨i.q, 0, none⟩) 1 1)).put (some 83) (.slice i.na ((castP (parsP bl n)).length + 1) i.nc)).put (some 84) (.pointer (some ⟨p, 0, none⟩))).put (some 85) (.pointer (some ⟨p, 1, none⟩))))
          (fun i w' => LineV w' base p (.slice ma l.length mc) (.slice i.na ((castP (parsP bl n)).length + 1) i.nc) (.slice ua (viewsP bl n).length uc) (.slice xa (n + 1) xc) (.slice (some ⟨kd, 0, none⟩) l.length l.length) (List.replicate (n + 1) nilS) (castP (parsP bl n) ++ [d]) (viewsP bl n) (List.replicate (n + 1) []) (List.replicate l.length (0, 0)) ∧ Mod (p :: (Value.slice pa (castP (parsP bl n)).length pc).ownBlock.toList) w8 w') ?_ ?_
        · skip
          refine wpH_startM (p :: (Value.slice pa (castP (parsP bl n)).length pc).ownBlock.toList) (by kernel_rfl) (fun hS => ?_)
          have hLr := hL8.keep ((Below.refl _ _).drew)
          (refine wpH_pure 0 ?_ (oi := { dst := some 72, op := Op.move (Operand.tmp 3), type := 32, pos := "theorems.go:106", after := #[], guard := none }) rfl (by kernel_rfl) (by kernel_rfl) (by kernel_rfl) (by rfl) hS (fun _ _ _ h => h) ?_ ?_; rotate_left; focus (intro w; go_simp; try with_reducible rfl))
          try simp only [Act.put, List.setIfInBounds_toArray, List.set_cons_zero, List.set_cons_succ]
          (refine wpH_pure 1 ?_ (oi := { dst := some 73, op := Op.move (Operand.tmp 3), type := 32, pos := "theorems.go:106", after := #[], guard := none }) rfl (by kernel_rfl) (by kernel_rfl) (by kernel_rfl) (by rfl) hS (fun _ _ _ h => h) ?_ ?_; rotate_left; focus (intro w; go_simp; try with_reducible rfl))
          try simp only [Act.put, List.setIfInBounds_toArray, List.set_cons_zero, List.set_cons_succ]
          (refine wpH_pure 2 ?_ (oi := { dst := some 74, op := Op.nilCheck (Operand.tmp 73), type := 0, pos := "theorems.go:106", after := #[{ on := 1, ground := Ground.data }], guard := none }) rfl (by kernel_rfl) (by kernel_rfl) (by kernel_rfl) (by rfl) hS (fun _ _ _ h => h) ?_ ?_; rotate_left; focus (intro w; go_simp; try with_reducible rfl))
          try simp only [Act.put, List.setIfInBounds_toArray, List.set_cons_zero, List.set_cons_succ]
          (refine wpH_pure 3 ?_ (oi := { dst := some 75, op := Op.fieldAddr 37 (Operand.tmp 74) 1, type := 0, pos := "theorems.go:106", after := #[{ on := 2, ground := Ground.data }], guard := none }) rfl (by kernel_rfl) (by kernel_rfl) (by kernel_rfl) (by rfl) hS (fun _ _ _ h => h) ?_ ?_; rotate_left; focus (intro w; go_simp; try with_reducible rfl))
          try simp only [Act.put, List.setIfInBounds_toArray, List.set_cons_zero, List.set_cons_succ]
          (refine wpH_pure 5 ?_ (oi := { dst := some 77, op := Op.indexAddr 38 (Operand.tmp 5) (Operand.const (Value.int IntKind.i64 0)), type := 0, pos := "theorems.go:106", after := #[], guard := none }) rfl (by kernel_rfl) (by kernel_rfl) (by kernel_rfl) (by rfl) hS (fun _ _ _ h => h) ?_ ?_; rotate_left; focus (intro w; go_simp; try with_reducible rfl))
          try simp only [Act.put, List.setIfInBounds_toArray, List.set_cons_zero, List.set_cons_succ]
          refine wpH_load 6 (.int .i64 (y1)) (oi := { dst := some 78, op := Op.load 3 (Operand.tmp 77), type := 3, pos := "theorems.go:106", after := #[{ on := 5, ground := Ground.data }], guard := none }) rfl (by kernel_rfl) (by kernel_rfl) (by kernel_rfl) (by rfl) hS (fun _ _ _ h => h) (fun w hb2 => (by have c := (K8.mod hb2 hk81).cell 0; go_simp; try rfl)) ?_
          try simp only [Act.put, List.setIfInBounds_toArray, List.set_cons_zero, List.set_cons_succ]
          (refine wpH_pure 7 ?_ (oi := { dst := some 79, op := Op.move (Operand.tmp 4), type := 3, pos := "theorems.go:106", after := #[], guard := none }) rfl (by kernel_rfl) (by kernel_rfl) (by kernel_rfl) (by rfl) hS (fun _ _ _ h => h) ?_ ?_; rotate_left; focus (intro w; go_simp; try with_reducible rfl))
          try simp only [Act.put, List.setIfInBounds_toArray, List.set_cons_zero, List.set_cons_succ]
          (refine wpH_pure 8 ?_ (oi := { dst := some 80, op := Op.binOp BinOp.add 3 (Operand.tmp 79) (Operand.const (Value.int IntKind.i64 1)) 3, type := 3, pos := "theorems.go:106", after := #[{ on := 7, ground := Ground.data }], guard := none }) rfl (by kernel_rfl) (by kernel_rfl) (by kernel_rfl) (by rfl) hS (fun _ _ _ h => h) ?_ ?_; rotate_left; focus (intro w; go_simp; try with_reducible rfl))
          try simp only [Act.put, List.setIfInBounds_toArray, List.set_cons_zero, List.set_cons_succ]
          refine wpAnyH_all (rs := [4, 9]) (by kernel_rfl) (by simp) (fun jj hjj => ?_)
          simp only [List.mem_cons, List.not_mem_nil, or_false] at hjj
          rcases hjj with rfl | rfl
          refine wpO_op (oi := { dst := some 76, op := Op.load 33 (Operand.tmp 75), type := 33, pos := "theorems.go:106", after := #[{ on := 3, ground := Ground.data }], guard := none }) rfl (by rfl) ?_
          refine wp_loads (.slice pa (castP (parsP bl n)).length pc) (by have c := hLr.blk.cell 1; go_simp; try rfl) ?_
          refine ⟨hS, ?_⟩
          try simp only [Act.put, List.setIfInBounds_toArray, List.set_cons_zero, List.set_cons_succ]
          refine wpH_call 9 (oi := { dst := some 81, op := Op.call { callee := Callee.value (Operand.func 8), args := #[Operand.tmp 78, Operand.tmp 80], argTypes := #[3, 3] }, type := 3, pos := "theorems.go:106", after := #[{ on := 6, ground := Ground.data }, { on := 8, ground := Ground.data }], guard := none }) rfl (by kernel_rfl) (by rfl) (hbel _) ?_ ?_
          · (go_simp; try rfl)
          rintro e w' ⟨rfl, rfl⟩
          refine ⟨_, rfl, hS, ?_⟩
          try simp only [Act.put, List.setIfInBounds_toArray, List.set_cons_zero, List.set_cons_succ]
          refine wpH_op 10 (oi := { dst := some 82, op := Op.buildSlice 33 1 #[(0, Operand.tmp 81)], type := 33, pos := "theorems.go:106", after := #[{ on := 9, ground := Ground.data }], guard := none }) rfl (by kernel_rfl) (by rfl) ?_
          refine wp_newK 3 #[.int .i64 (d)] (fun k => .slice (some ⟨k, 0, none⟩) 1 1) (fun w => by go_simp; try rfl) (fun q w' hk hh hlt hbk => ?_)
          replace hLr := hLr.keep hbk
          have hq := (Blk.of_heap hh hlt).cell 0
          refine hold_and (Mod.grow hS (hbk.mono hS.size)) (fun hS => ?_)
          clear hk hh hlt hbk
          try simp only [Act.put, List.setIfInBounds_toArray, List.set_cons_zero, List.set_cons_succ]
          refine wpH_op 11 (oi := { dst := some 83, op := Op.call { callee := Callee.builtin Builtin.append, args := #[Operand.tmp 76, Operand.tmp 82], argTypes := #[33, 33] }, type := 33, pos := "theorems.go:106", after := #[{ on := 4, ground := Ground.data }, { on := 10, ground := Ground.data }, { on := 9, ground := Ground.chain }], guard := none }) rfl (by kernel_rfl) (by rfl) ?_
          refine wp_app1 (.tmp 76) (.tmp 82) 33 3 (.int .i64 (0)) 8 Try.underlying33 infoInt rfl (by decide) rfl base _ (.slice pa (castP (parsP bl n)).length pc) (.int .i64 (d)) _ rfl hLr.prow q rfl (by simpa using hq) rfl (by omega) (Nat.le_trans hw8 hS.size) (fun v' w' hr hg ho => ?_)
          obtain ⟨na, nc, rfl⟩ := row_form hr
          have K9 := hLr.blk.of_block (hg.block _ hLr.blk.lt (fun e => hLr.np (.slice pa (castP (parsP bl n)).length pc) (by simp) e.symm)) hg.size
          refine hold_and (Mod.call hS (Mod.of_grown hg) (fun x hx => .inl (.tail _ hx))) (fun hS => ?_)
          try simp only [Act.put, List.setIfInBounds_toArray, List.set_cons_zero, List.set_cons_succ]
          (refine wpH_pure 12 ?_ (oi := { dst := some 84, op := Op.nilCheck (Operand.tmp 72), type := 0, pos := "theorems.go:106", after := #[{ on := 0, ground := Ground.data }, { on := 0, ground := Ground.phase }, { on := 1, ground := Ground.phase }, { on := 2, ground := Ground.phase }, { on := 3, ground := Ground.phase }, { on := 4, ground := Ground.phase }, { on := 5, ground := Ground.phase }, { on := 6, ground := Ground.phase }, { on := 7, ground := Ground.phase }, { on := 8, ground := Ground.phase }, { on := 9, ground := Ground.phase }, { on := 10, ground := Ground.phase }, { on := 11, ground := Ground.phase }], guard := none }) rfl (by kernel_rfl) (by kernel_rfl) (by kernel_rfl) (by rfl) hS (fun _ _ _ h => h) ?_ ?_; rotate_left; focus (intro w; go_simp; try with_reducible rfl))
          try simp only [Act.put, List.setIfInBounds_toArray, List.set_cons_zero, List.set_cons_succ]
          (refine wpH_pure 13 ?_ (oi := { dst := some 85, op := Op.fieldAddr 37 (Operand.tmp 84) 1, type := 0, pos := "theorems.go:106", after := #[{ on := 12, ground := Ground.data }, { on := 0, ground := Ground.phase }, { on := 1, ground := Ground.phase }, { on := 2, ground := Ground.phase }, { on := 3, ground := Ground.phase }, { on := 4, ground := Ground.phase }, { on := 5, ground := Ground.phase }, { on := 6, ground := Ground.phase }, { on := 7, ground := Ground.phase }, { on := 8, ground := Ground.phase }, { on := 9, ground := Ground.phase }, { on := 10, ground := Ground.phase }, { on := 11, ground := Ground.phase }], guard := none }) rfl (by kernel_rfl) (by kernel_rfl) (by kernel_rfl) (by rfl) hS (fun _ _ _ h => h) ?_ ?_; rotate_left; focus (intro w; go_simp; try with_reducible rfl))
          try simp only [Act.put, List.setIfInBounds_toArray, List.set_cons_zero, List.set_cons_succ]
          refine wpH_op 14 (oi := { dst := none, op := Op.store 33 (Operand.tmp 85) (Operand.tmp 83), type := 0, pos := "theorems.go:106", after := #[{ on := 13, ground := Ground.data }, { on := 11, ground := Ground.data }, { on := 11, ground := Ground.chain }, { on := 0, ground := Ground.phase }, { on := 1, ground := Ground.phase }, { on := 2, ground := Ground.phase }, { on := 3, ground := Ground.phase }, { on := 4, ground := Ground.phase }, { on := 5, ground := Ground.phase }, { on := 6, ground := Ground.phase }, { on := 7, ground := Ground.phase }, { on := 8, ground := Ground.phase }, { on := 9, ground := Ground.phase }, { on := 10, ground := Ground.phase }, { on := 11, ground := Ground.phase }], guard := none }) rfl (by kernel_rfl) (by rfl) ?_
          obtain ⟨k1, k2, k3⟩ := id K9
          unfold Oper.wp
          go_simp
          refine hold_and (Mod.setCell hS (p := ⟨p, 1, none⟩) (.inl (by simp)) _) (fun hS => ?_)
          try simp only [Act.put, List.setIfInBounds_toArray, List.set_cons_zero, List.set_cons_succ]
          refine wpAnyH_done (by kernel_rfl) ?_ _
          unfold NormQ
          refine ⟨⟨q, na, nc⟩, ?_, hLr.par_app (irow_snoc hr) hg ho, hS⟩
          (try simp only [Act.put, List.setIfInBounds_toArray, List.set_cons_zero, List.set_cons_succ])
          refine wpO_call (oi := { dst := some 81, op := Op.call { callee := Callee.value (Operand.func 8), args := #[Operand.tmp 78, Operand.tmp 80], argTypes := #[3, 3] }, type := 3, pos := "theorems.go:106", after := #[{ on := 6, ground := Ground.data }, { on := 8, ground := Ground.data }], guard := none }) rfl (by rfl) (hbel _) ?_ ?_
          · (go_simp; try rfl)
          rintro e w' ⟨rfl, rfl⟩
          refine ⟨_, rfl, hS, ?_⟩
          try simp only [Act.put, List.setIfInBounds_toArray, List.set_cons_zero, List.set_cons_succ]
          refine wpAnyH_all (rs := [4, 10]) (by kernel_rfl) (by simp) (fun jj hjj => ?_)
          simp only [List.mem_cons, List.not_mem_nil, or_false] at hjj
          rcases hjj with rfl | rfl
          refine wpO_op (oi := { dst := some 76, op := Op.load 33 (Operand.tmp 75), type := 33, pos := "theorems.go:106", after := #[{ on := 3, ground := Ground.data }], guard := none }) rfl (by rfl) ?_
          refine wp_loads (.slice pa (castP (parsP bl n)).length pc) (by have c := hLr.blk.cell 1; go_simp; try rfl) ?_
          refine ⟨hS, ?_⟩
          try simp only [Act.put, List.setIfInBounds_toArray, List.set_cons_zero, List.set_cons_succ]
          refine wpH_op 10 (oi := { dst := some 82, op := Op.buildSlice 33 1 #[(0, Operand.tmp 81)], type := 33, pos := "theorems.go:106", after := #[{ on := 9, ground := Ground.data }], guard := none }) rfl (by kernel_rfl) (by rfl) ?_
          refine wp_newK 3 #[.int .i64 (d)] (fun k => .slice (some ⟨k, 0, none⟩) 1 1) (fun w => by go_simp; try rfl) (fun q w' hk hh hlt hbk => ?_)
          replace hLr := hLr.keep hbk
          have hq := (Blk.of_heap hh hlt).cell 0
          refine hold_and (Mod.grow hS (hbk.mono hS.size)) (fun hS => ?_)
          clear hk hh hlt hbk
          try simp only [Act.put, List.setIfInBounds_toArray, List.set_cons_zero, List.set_cons_succ]
          refine wpH_op 11 (oi := { dst := some 83, op := Op.call { callee := Callee.builtin Builtin.append, args := #[Operand.tmp 76, Operand.tmp 82], argTypes := #[33, 33] }, type := 33, pos := "theorems.go:106", after := #[{ on := 4, ground := Ground.data }, { on := 10, ground := Ground.data }, { on := 9, ground := Ground.chain }], guard := none }) rfl (by kernel_rfl) (by rfl) ?_
          refine wp_app1 (.tmp 76) (.tmp 82) 33 3 (.int .i64 (0)) 8 Try.underlying33 infoInt rfl (by decide) rfl base _ (.slice pa (castP (parsP bl n)).length pc) (.int .i64 (d)) _ rfl hLr.prow q rfl (by simpa using hq) rfl (by omega) (Nat.le_trans hw8 hS.size) (fun v' w' hr hg ho => ?_)
          obtain ⟨na, nc, rfl⟩ := row_form hr
          have K9 := hLr.blk.of_block (hg.block _ hLr.blk.lt (fun e => hLr.np (.slice pa (castP (parsP bl n)).length pc) (by simp) e.symm)) hg.size
          refine hold_and (Mod.call hS (Mod.of_grown hg) (fun x hx => .inl (.tail _ hx))) (fun hS => ?_)
          try simp only [Act.put, List.setIfInBounds_toArray, List.set_cons_zero, List.set_cons_succ]
          (refine wpH_pure 12 ?_ (oi := { dst := some 84, op := Op.nilCheck (Operand.tmp 72), type := 0, pos := "theorems.go:106", after := #[{ on := 0, ground := Ground.data }, { on := 0, ground := Ground.phase }, { on := 1, ground := Ground.phase }, { on := 2, ground := Ground.phase }, { on := 3, ground := Ground.phase }, { on := 4, ground := Ground.phase }, { on := 5, ground := Ground.phase }, { on := 6, ground := Ground.phase }, { on := 7, ground := Ground.phase }, { on := 8, ground := Ground.phase }, { on := 9, ground := Ground.phase }, { on := 10, ground := Ground.phase }, { on := 11, ground := Ground.phase }], guard := none }) rfl (by kernel_rfl) (by kernel_rfl) (by kernel_rfl) (by rfl) hS (fun _ _ _ h => h) ?_ ?_; rotate_left; focus (intro w; go_simp; try with_reducible rfl))
          try simp only [Act.put, List.setIfInBounds_toArray, List.set_cons_zero, List.set_cons_succ]
          (refine wpH_pure 13 ?_ (oi := { dst := some 85, op := Op.fieldAddr 37 (Operand.tmp 84) 1, type := 0, pos := "theorems.go:106", after := #[{ on := 12, ground := Ground.data }, { on := 0, ground := Ground.phase }, { on := 1, ground := Ground.phase }, { on := 2, ground := Ground.phase }, { on := 3, ground := Ground.phase }, { on := 4, ground := Ground.phase }, { on := 5, ground := Ground.phase }, { on := 6, ground := Ground.phase }, { on := 7, ground := Ground.phase }, { on := 8, ground := Ground.phase }, { on := 9, ground := Ground.phase }, { on := 10, ground := Ground.phase }, { on := 11, ground := Ground.phase }], guard := none }) rfl (by kernel_rfl) (by kernel_rfl) (by kernel_rfl) (by rfl) hS (fun _ _ _ h => h) ?_ ?_; rotate_left; focus (intro w; go_simp; try with_reducible rfl))
          try simp only [Act.put, List.setIfInBounds_toArray, List.set_cons_zero, List.set_cons_succ]
          refine wpH_op 14 (oi := { dst := none, op := Op.store 33 (Operand.tmp 85) (Operand.tmp 83), type := 0, pos := "theorems.go:106", after := #[{ on := 13, ground := Ground.data }, { on := 11, ground := Ground.data }, { on := 11, ground := Ground.chain }, { on := 0, ground := Ground.phase }, { on := 1, ground := Ground.phase }, { on := 2, ground := Ground.phase }, { on := 3, ground := Ground.phase }, { on := 4, ground := Ground.phase }, { on := 5, ground := Ground.phase }, { on := 6, ground := Ground.phase }, { on := 7, ground := Ground.phase }, { on := 8, ground := Ground.phase }, { on := 9, ground := Ground.phase }, { on := 10, ground := Ground.phase }, { on := 11, ground := Ground.phase }], guard := none }) rfl (by kernel_rfl) (by rfl) ?_
          obtain ⟨k1, k2, k3⟩ := id K9
          unfold Oper.wp
          go_simp
          refine hold_and (Mod.setCell hS (p := ⟨p, 1, none⟩) (.inl (by simp)) _) (fun hS => ?_)
          try simp only [Act.put, List.setIfInBounds_toArray, List.set_cons_zero, List.set_cons_succ]
          refine wpAnyH_done (by kernel_rfl) ?_ _
          unfold NormQ
          refine ⟨⟨q, na, nc⟩, ?_, hLr.par_app (irow_snoc hr) hg ho, hS⟩
          (try simp only [Act.put, List.setIfInBounds_toArray, List.set_cons_zero, List.set_cons_succ])
          refine wpO_op (oi := { dst := some 82, op := Op.buildSlice 33 1 #[(0, Operand.tmp 81)], type := 33, pos := "theorems.go:106", after := #[{ on := 9, ground := Ground.data }], guard := none }) rfl (by rfl) ?_
          refine wp_newK 3 #[.int .i64 (d)] (fun k => .slice (some ⟨k, 0, none⟩) 1 1) (fun w => by go_simp; try rfl) (fun q w' hk hh hlt hbk => ?_)
          replace hLr := hLr.keep hbk
          have hq := (Blk.of_heap hh hlt).cell 0
          refine hold_and (Mod.grow hS (hbk.mono hS.size)) (fun hS => ?_)
          clear hk hh hlt hbk
          try simp only [Act.put, List.setIfInBounds_toArray, List.set_cons_zero, List.set_cons_succ]
          refine wpH_op 4 (oi := { dst := some 76, op := Op.load 33 (Operand.tmp 75), type := 33, pos := "theorems.go:106", after := #[{ on := 3, ground := Ground.data }], guard := none }) rfl (by kernel_rfl) (by rfl) ?_
          refine wp_loads (.slice pa (castP (parsP bl n)).length pc) (by have c := hLr.blk.cell 1; go_simp; try rfl) ?_
          refine ⟨hS, ?_⟩
          try simp only [Act.put, List.setIfInBounds_toArray, List.set_cons_zero, List.set_cons_succ]
          refine wpH_op 11 (oi := { dst := some 83, op := Op.call { callee := Callee.builtin Builtin.append, args := #[Operand.tmp 76, Operand.tmp 82], argTypes := #[33, 33] }, type := 33, pos := "theorems.go:106", after := #[{ on := 4, ground := Ground.data }, { on := 10, ground := Ground.data }, { on := 9, ground := Ground.chain }], guard := none }) rfl (by kernel_rfl) (by rfl) ?_
          refine wp_app1 (.tmp 76) (.tmp 82) 33 3 (.int .i64 (0)) 8 Try.underlying33 infoInt rfl (by decide) rfl base _ (.slice pa (castP (parsP bl n)).length pc) (.int .i64 (d)) _ rfl hLr.prow q rfl (by simpa using hq) rfl (by omega) (Nat.le_trans hw8 hS.size) (fun v' w' hr hg ho => ?_)
          obtain ⟨na, nc, rfl⟩ := row_form hr
          have K9 := hLr.blk.of_block (hg.block _ hLr.blk.lt (fun e => hLr.np (.slice pa (castP (parsP bl n)).length pc) (by simp) e.symm)) hg.size
          refine hold_and (Mod.call hS (Mod.of_grown hg) (fun x hx => .inl (.tail _ hx))) (fun hS => ?_)
          try simp only [Act.put, List.setIfInBounds_toArray, List.set_cons_zero, List.set_cons_succ]
          (refine wpH_pure 12 ?_ (oi := { dst := some 84, op := Op.nilCheck (Operand.tmp 72), type := 0, pos := "theorems.go:106", after := #[{ on := 0, ground := Ground.data }, { on := 0, ground := Ground.phase }, { on := 1, ground := Ground.phase }, { on := 2, ground := Ground.phase }, { on := 3, ground := Ground.phase }, { on := 4, ground := Ground.phase }, { on := 5, ground := Ground.phase }, { on := 6, ground := Ground.phase }, { on := 7, ground := Ground.phase }, { on := 8, ground := Ground.phase }, { on := 9, ground := Ground.phase }, { on := 10, ground := Ground.phase }, { on := 11, ground := Ground.phase }], guard := none }) rfl (by kernel_rfl) (by kernel_rfl) (by kernel_rfl) (by rfl) hS (fun _ _ _ h => h) ?_ ?_; rotate_left; focus (intro w; go_simp; try with_reducible rfl))
          try simp only [Act.put, List.setIfInBounds_toArray, List.set_cons_zero, List.set_cons_succ]
          (refine wpH_pure 13 ?_ (oi := { dst := some 85, op := Op.fieldAddr 37 (Operand.tmp 84) 1, type := 0, pos := "theorems.go:106", after := #[{ on := 12, ground := Ground.data }, { on := 0, ground := Ground.phase }, { on := 1, ground := Ground.phase }, { on := 2, ground := Ground.phase }, { on := 3, ground := Ground.phase }, { on := 4, ground := Ground.phase }, { on := 5, ground := Ground.phase }, { on := 6, ground := Ground.phase }, { on := 7, ground := Ground.phase }, { on := 8, ground := Ground.phase }, { on := 9, ground := Ground.phase }, { on := 10, ground := Ground.phase }, { on := 11, ground := Ground.phase }], guard := none }) rfl (by kernel_rfl) (by kernel_rfl) (by kernel_rfl) (by rfl) hS (fun _ _ _ h => h) ?_ ?_; rotate_left; focus (intro w; go_simp; try with_reducible rfl))
          try simp only [Act.put, List.setIfInBounds_toArray, List.set_cons_zero, List.set_cons_succ]
          refine wpH_op 14 (oi := { dst := none, op := Op.store 33 (Operand.tmp 85) (Operand.tmp 83), type := 0, pos := "theorems.go:106", after := #[{ on := 13, ground := Ground.data }, { on := 11, ground := Ground.data }, { on := 11, ground := Ground.chain }, { on := 0, ground := Ground.phase }, { on := 1, ground := Ground.phase }, { on := 2, ground := Ground.phase }, { on := 3, ground := Ground.phase }, { on := 4, ground := Ground.phase }, { on := 5, ground := Ground.phase }, { on := 6, ground := Ground.phase }, { on := 7, ground := Ground.phase }, { on := 8, ground := Ground.phase }, { on := 9, ground := Ground.phase }, { on := 10, ground := Ground.phase }, { on := 11, ground := Ground.phase }], guard := none }) rfl (by kernel_rfl) (by rfl) ?_
          obtain ⟨k1, k2, k3⟩ := id K9
          unfold Oper.wp
          go_simp
          refine hold_and (Mod.setCell hS (p := ⟨p, 1, none⟩) (.inl (by simp)) _) (fun hS => ?_)
          try simp only [Act.put, List.setIfInBounds_toArray, List.set_cons_zero, List.set_cons_succ]
          refine wpAnyH_done (by kernel_rfl) ?_ _
          unfold NormQ
          refine ⟨⟨q, na, nc⟩, ?_, hLr.par_app (irow_snoc hr) hg ho, hS⟩
          (try simp only [Act.put, List.setIfInBounds_toArray, List.set_cons_zero, List.set_cons_succ])
        rintro ⟨q, na, nc⟩ w9 ⟨hL9, hS⟩
        dsimp only at hL9 ⊢
        replace K8 := K8.mod hS hk81
        have hb9 := Below.mod hb8 hS hw8 hpm
        simp only [Act.put, List.setIfInBounds_toArray, List.set_cons_zero, List.set_cons_succ]
        clear hL8 hS hb8 hw8 hpm hk81 hbel
        have hw9 := Nat.le_trans hbw3 hb9.size
        have hpm : ∀ x ∈ p :: (Value.slice ua (viewsP bl n).length uc).ownBlock.toList, base ≤ x := by
          intro x hx
          rcases List.mem_cons.1 hx with e | hx
          · omega
          · exact (hL9.vrow.lt x (by simpa using hx)).1
        have hL8 := hL9
        have hw8 := hw9
        clear hL9 hw9
        obtain ⟨w8', hw8'⟩ := Below.nm hb9
        subst hw8'
        go_wp2_with fail
        obtain ⟨pv2, hpv2⟩ : ∃ v : Value, v = .slice na ((castP (parsP bl n)).length + 1) nc := ⟨_, rfl⟩
        rw [← hpv2] at hL8
        clear hpv2
        refine wp_region_ex (ι := J9) (fun i a => (((((((((((a.put (some 86) (.pointer (some ⟨p, 0, none⟩))).put (some 87) (.pointer (some ⟨p, 0, none⟩))).put (some 88) (.pointer (some ⟨p, 0, none⟩))).put (some 89) (.pointer (some ⟨p, 2, none⟩))).put (some 90) (.slice ua (viewsP bl n).length uc)).put (some 91) (.pointer (some ⟨k8, 1, none⟩))).put (some 92) (.int .i64 (y2))).put (some 93) (.slice (some ⟨i.q, 0, none⟩) 1 1)).put (some 94) (.slice i.na ((viewsP bl n).length + 1) i.nc)).put (some 95) (.pointer (some ⟨p, 0, none⟩))).put (some 96) (.pointer (some ⟨p, 2, none⟩))))
          (fun i w' => LineV w' base p (.slice ma l.length mc) pv2 (.slice i.na ((viewsP bl n).length + 1) i.nc) (.slice xa (n + 1) xc) (.slice (some ⟨kd, 0, none⟩) l.length l.length) (List.replicate (n + 1) nilS) (castP (parsP bl n) ++ [d]) (viewsP bl n ++ [y2]) (List.replicate (n + 1) []) (List.replicate l.length (0, 0)) ∧ Mod (p :: (Value.slice ua (viewsP bl n).length uc).ownBlock.toList) w8' w') ?_ ?_
        · skip
          refine wpH_startM (p :: (Value.slice ua (viewsP bl n).length uc).ownBlock.toList) (by kernel_rfl) (fun hS => ?_)
          have hLr := hL8.keep ((Below.refl _ _).drew)
          (refine wpH_pure 0 ?_ (oi := { dst := some 86, op := Op.move (Operand.tmp 3), type := 32, pos := "theorems.go:107", after := #[], guard := none }) rfl (by kernel_rfl) (by kernel_rfl) (by kernel_rfl) (by rfl) hS (fun _ _ _ h => h) ?_ ?_; rotate_left; focus (intro w; go_simp; try with_reducible rfl))
          try simp only [Act.put, List.setIfInBounds_toArray, List.set_cons_zero, List.set_cons_succ]
          (refine wpH_pure 1 ?_ (oi := { dst := some 87, op := Op.move (Operand.tmp 3), type := 32, pos := "theorems.go:107", after := #[], guard := none }) rfl (by kernel_rfl) (by kernel_rfl) (by kernel_rfl) (by rfl) hS (fun _ _ _ h => h) ?_ ?_; rotate_left; focus (intro w; go_simp; try with_reducible rfl))
          try simp only [Act.put, List.setIfInBounds_toArray, List.set_cons_zero, List.set_cons_succ]
          (refine wpH_pure 2 ?_ (oi := { dst := some 88, op := Op.nilCheck (Operand.tmp 87), type := 0, pos := "theorems.go:107", after := #[{ on := 1, ground := Ground.data }], guard := none }) rfl (by kernel_rfl) (by kernel_rfl) (by kernel_rfl) (by rfl) hS (fun _ _ _ h => h) ?_ ?_; rotate_left; focus (intro w; go_simp; try with_reducible rfl))
          try simp only [Act.put, List.setIfInBounds_toArray, List.set_cons_zero, List.set_cons_succ]
          (refine wpH_pure 3 ?_ (oi := { dst := some 89, op := Op.fieldAddr 37 (Operand.tmp 88) 2, type := 0, pos := "theorems.go:107", after := #[{ on := 2, ground := Ground.data }], guard := none }) rfl (by kernel_rfl) (by kernel_rfl) (by kernel_rfl) (by rfl) hS (fun _ _ _ h => h) ?_ ?_; rotate_left; focus (intro w; go_simp; try with_reducible rfl))
          try simp only [Act.put, List.setIfInBounds_toArray, List.set_cons_zero, List.set_cons_succ]
          (refine wpH_pure 5 ?_ (oi := { dst := some 91, op := Op.indexAddr 38 (Operand.tmp 5) (Operand.const (Value.int IntKind.i64 1)), type := 0, pos := "theorems.go:107", after := #[], guard := none }) rfl (by kernel_rfl) (by kernel_rfl) (by kernel_rfl) (by rfl) hS (fun _ _ _ h => h) ?_ ?_; rotate_left; focus (intro w; go_simp; try with_reducible rfl))
          try simp only [Act.put, List.setIfInBounds_toArray, List.set_cons_zero, List.set_cons_succ]
          refine wpH_load 6 (.int .i64 (y2)) (oi := { dst := some 92, op := Op.load 3 (Operand.tmp 91), type := 3, pos := "theorems.go:107", after := #[{ on := 5, ground := Ground.data }], guard := none }) rfl (by kernel_rfl) (by kernel_rfl) (by kernel_rfl) (by rfl) hS (fun _ _ _ h => h) (fun w hb2 => (by have c := (K8.mod hb2 hk82).cell 1; go_simp; try rfl)) ?_
          try simp only [Act.put, List.setIfInBounds_toArray, List.set_cons_zero, List.set_cons_succ]
          refine wpAnyH_all (rs := [4, 7]) (by kernel_rfl) (by simp) (fun jj hjj => ?_)
          simp only [List.mem_cons, List.not_mem_nil, or_false] at hjj
          rcases hjj with rfl | rfl
          refine wpO_op (oi := { dst := some 90, op := Op.load 33 (Operand.tmp 89), type := 33, pos := "theorems.go:107", after := #[{ on := 3, ground := Ground.data }], guard := none }) rfl (by rfl) ?_
          refine wp_loads (.slice ua (viewsP bl n).length uc) (by have c := hLr.blk.cell 2; go_simp; try rfl) ?_
          refine ⟨hS, ?_⟩
          try simp only [Act.put, List.setIfInBounds_toArray, List.set_cons_zero, List.set_cons_succ]
          refine wpH_op 7 (oi := { dst := some 93, op := Op.buildSlice 33 1 #[(0, Operand.tmp 92)], type := 33, pos := "theorems.go:107", after := #[{ on := 6, ground := Ground.data }], guard := none }) rfl (by kernel_rfl) (by rfl) ?_
          refine wp_newK 3 #[.int .i64 (y2)] (fun k => .slice (some ⟨k, 0, none⟩) 1 1) (fun w => by go_simp; try rfl) (fun q w' hk hh hlt hbk => ?_)
          replace hLr := hLr.keep hbk
          have hq := (Blk.of_heap hh hlt).cell 0
          refine hold_and (Mod.grow hS (hbk.mono hS.size)) (fun hS => ?_)
          clear hk hh hlt hbk
          try simp only [Act.put, List.setIfInBounds_toArray, List.set_cons_zero, List.set_cons_succ]
          refine wpH_op 8 (oi := { dst := some 94, op := Op.call { callee := Callee.builtin Builtin.append, args := #[Operand.tmp 90, Operand.tmp 93], argTypes := #[33, 33] }, type := 33, pos := "theorems.go:107", after := #[{ on := 4, ground := Ground.data }, { on := 7, ground := Ground.data }], guard := none }) rfl (by kernel_rfl) (by rfl) ?_
          refine wp_app1 (.tmp 90) (.tmp 93) 33 3 (.int .i64 (0)) 8 Try.underlying33 infoInt rfl (by decide) rfl base _ (.slice ua (viewsP bl n).length uc) (.int .i64 (y2)) _ rfl hLr.vrow q rfl (by simpa using hq) rfl (by omega) (Nat.le_trans hw8 hS.size) (fun v' w' hr hg ho => ?_)
          obtain ⟨na, nc, rfl⟩ := row_form hr
          have K9 := hLr.blk.of_block (hg.block _ hLr.blk.lt (fun e => hLr.np (.slice ua (viewsP bl n).length uc) (by simp) e.symm)) hg.size
          refine hold_and (Mod.call hS (Mod.of_grown hg) (fun x hx => .inl (.tail _ hx))) (fun hS => ?_)
          try simp only [Act.put, List.setIfInBounds_toArray, List.set_cons_zero, List.set_cons_succ]
          (refine wpH_pure 9 ?_ (oi := { dst := some 95, op := Op.nilCheck (Operand.tmp 86), type := 0, pos := "theorems.go:107", after := #[{ on := 0, ground := Ground.data }, { on := 0, ground := Ground.phase }, { on := 1, ground := Ground.phase }, { on := 2, ground := Ground.phase }, { on := 3, ground := Ground.phase }, { on := 4, ground := Ground.phase }, { on := 5, ground := Ground.phase }, { on := 6, ground := Ground.phase }, { on := 7, ground := Ground.phase }, { on := 8, ground := Ground.phase }], guard := none }) rfl (by kernel_rfl) (by kernel_rfl) (by kernel_rfl) (by rfl) hS (fun _ _ _ h => h) ?_ ?_; rotate_left; focus (intro w; go_simp; try with_reducible rfl))
          try simp only [Act.put, List.setIfInBounds_toArray, List.set_cons_zero, List.set_cons_succ]
          (refine wpH_pure 10 ?_ (oi := { dst := some 96, op := Op.fieldAddr 37 (Operand.tmp 95) 2, type := 0, pos := "theorems.go:107", after := #[{ on := 9, ground := Ground.data }, { on := 0, ground := Ground.phase }, { on := 1, ground := Ground.phase }, { on := 2, ground := Ground.phase }, { on := 3, ground := Ground.phase }, { on := 4, ground := Ground.phase }, { on := 5, ground := Ground.phase }, { on := 6, ground := Ground.phase }, { on := 7, ground := Ground.phase }, { on := 8, ground := Ground.phase }], guard := none }) rfl (by kernel_rfl) (by kernel_rfl) (by kernel_rfl) (by rfl) hS (fun _ _ _ h => h) ?_ ?_; rotate_left; focus (intro w; go_simp; try with_reducible rfl))
          try simp only [Act.put, List.setIfInBounds_toArray, List.set_cons_zero, List.set_cons_succ]
          refine wpH_op 11 (oi := { dst := none, op := Op.store 33 (Operand.tmp 96) (Operand.tmp 94), type := 0, pos := "theorems.go:107", after := #[{ on := 10, ground := Ground.data }, { on := 8, ground := Ground.data }, { on := 8, ground := Ground.chain }, { on := 0, ground := Ground.phase }, { on := 1, ground := Ground.phase }, { on := 2, ground := Ground.phase }, { on := 3, ground := Ground.phase }, { on := 4, ground := Ground.phase }, { on := 5, ground := Ground.phase }, { on := 6, ground := Ground.phase }, { on := 7, ground := Ground.phase }, { on := 8, ground := Ground.phase }], guard := none }) rfl (by kernel_rfl) (by rfl) ?_
          obtain ⟨k1, k2, k3⟩ := id K9
          unfold Oper.wp
          go_simp
          refine hold_and (Mod.setCell hS (p := ⟨p, 2, none⟩) (.inl (by simp)) _) (fun hS => ?_)
          try simp only [Act.put, List.setIfInBounds_toArray, List.set_cons_zero, List.set_cons_succ]
          refine wpAnyH_done (by kernel_rfl) ?_ _
          unfold NormQ
          refine ⟨⟨q, na, nc⟩, ?_, hLr.view_app (irow_snoc hr) hg ho, hS⟩
          (try simp only [Act.put, List.setIfInBounds_toArray, List.set_cons_zero, List.set_cons_succ])
          refine wpO_op (oi := { dst := some 93, op := Op.buildSlice 33 1 #[(0, Operand.tmp 92)], type := 33, pos := "theorems.go:107", after := #[{ on := 6, ground := Ground.data }], guard := none }) rfl (by rfl) ?_
          refine wp_newK 3 #[.int .i64 (y2)] (fun k => .slice (some ⟨k, 0, none⟩) 1 1) (fun w => by go_simp; try rfl) (fun q w' hk hh hlt hbk => ?_)
          replace hLr := hLr.keep hbk
          have hq := (Blk.of_heap hh hlt).cell 0
          refine hold_and (Mod.grow hS (hbk.mono hS.size)) (fun hS => ?_)
          clear hk hh hlt hbk
          try simp only [Act.put, List.setIfInBounds_toArray, List.set_cons_zero, List.set_cons_succ]
          refine wpH_op 4 (oi := { dst := some 90, op := Op.load 33 (Operand.tmp 89), type := 33, pos := "theorems.go:107", after := #[{ on := 3, ground := Ground.data }], guard := none }) rfl (by kernel_rfl) (by rfl) ?_
          refine wp_loads (.slice ua (viewsP bl n).length uc) (by have c := hLr.blk.cell 2; go_simp; try rfl) ?_
          refine ⟨hS, ?_⟩
          try simp only [Act.put, List.setIfInBounds_toArray, List.set_cons_zero, List.set_cons_succ]
          refine wpH_op 8 (oi := { dst := some 94, op := Op.call { callee := Callee.builtin Builtin.append, args := #[Operand.tmp 90, Operand.tmp 93], argTypes := #[33, 33] }, type := 33, pos := "theorems.go:107", after := #[{ on := 4, ground := Ground.data }, { on := 7, ground := Ground.data }], guard := none }) rfl (by kernel_rfl) (by rfl) ?_
          refine wp_app1 (.tmp 90) (.tmp 93) 33 3 (.int .i64 (0)) 8 Try.underlying33 infoInt rfl (by decide) rfl base _ (.slice ua (viewsP bl n).length uc) (.int .i64 (y2)) _ rfl hLr.vrow q rfl (by simpa using hq) rfl (by omega) (Nat.le_trans hw8 hS.size) (fun v' w' hr hg ho => ?_)
          obtain ⟨na, nc, rfl⟩ := row_form hr
          have K9 := hLr.blk.of_block (hg.block _ hLr.blk.lt (fun e => hLr.np (.slice ua (viewsP bl n).length uc) (by simp) e.symm)) hg.size
          refine hold_and (Mod.call hS (Mod.of_grown hg) (fun x hx => .inl (.tail _ hx))) (fun hS => ?_)
          try simp only [Act.put, List.setIfInBounds_toArray, List.set_cons_zero, List.set_cons_succ]
          (refine wpH_pure 9 ?_ (oi := { dst := some 95, op := Op.nilCheck (Operand.tmp 86), type := 0, pos := "theorems.go:107", after := #[{ on := 0, ground := Ground.data }, { on := 0, ground := Ground.phase }, { on := 1, ground := Ground.phase }, { on := 2, ground := Ground.phase }, { on := 3, ground := Ground.phase }, { on := 4, ground := Ground.phase }, { on := 5, ground := Ground.phase }, { on := 6, ground := Ground.phase }, { on := 7, ground := Ground.phase }, { on := 8, ground := Ground.phase }], guard := none }) rfl (by kernel_rfl) (by kernel_rfl) (by kernel_rfl) (by rfl) hS (fun _ _ _ h => h) ?_ ?_; rotate_left; focus (intro w; go_simp; try with_reducible rfl))
          try simp only [Act.put, List.setIfInBounds_toArray, List.set_cons_zero, List.set_cons_succ]
          (refine wpH_pure 10 ?_ (oi := { dst := some 96, op := Op.fieldAddr 37 (Operand.tmp 95) 2, type := 0, pos := "theorems.go:107", after := #[{ on := 9, ground := Ground.data }, { on := 0, ground := Ground.phase }, { on := 1, ground := Ground.phase }, { on := 2, ground := Ground.phase }, { on := 3, ground := Ground.phase }, { on := 4, ground := Ground.phase }, { on := 5, ground := Ground.phase }, { on := 6, ground := Ground.phase }, { on := 7, ground := Ground.phase }, { on := 8, ground := Ground.phase }], guard := none }) rfl (by kernel_rfl) (by kernel_rfl) (by kernel_rfl) (by rfl) hS (fun _ _ _ h => h) ?_ ?_; rotate_left; focus (intro w; go_simp; try with_reducible rfl))
          try simp only [Act.put, List.setIfInBounds_toArray, List.set_cons_zero, List.set_cons_succ]
          refine wpH_op 11 (oi := { dst := none, op := Op.store 33 (Operand.tmp 96) (Operand.tmp 94), type := 0, pos := "theorems.go:107", after := #[{ on := 10, ground := Ground.data }, { on := 8, ground := Ground.data }, { on := 8, ground := Ground.chain }, { on := 0, ground := Ground.phase }, { on := 1, ground := Ground.phase }, { on := 2, ground := Ground.phase }, { on := 3, ground := Ground.phase }, { on := 4, ground := Ground.phase }, { on := 5, ground := Ground.phase }, { on := 6, ground := Ground.phase }, { on := 7, ground := Ground.phase }, { on := 8, ground := Ground.phase }], guard := none }) rfl (by kernel_rfl) (by rfl) ?_
          obtain ⟨k1, k2, k3⟩ := id K9
          unfold Oper.wp
          go_simp
          refine hold_and (Mod.setCell hS (p := ⟨p, 2, none⟩) (.inl (by simp)) _) (fun hS => ?_)
          try simp only [Act.put, List.setIfInBounds_toArray, List.set_cons_zero, List.set_cons_succ]
          refine wpAnyH_done (by kernel_rfl) ?_ _
          unfold NormQ
          refine ⟨⟨q, na, nc⟩, ?_, hLr.view_app (irow_snoc hr) hg ho, hS⟩
          (try simp only [Act.put, List.setIfInBounds_toArray, List.set_cons_zero, List.set_cons_succ])
        rintro ⟨q2, ma2, mc2⟩ w10 ⟨hL10, hS⟩
        dsimp only at hL10 ⊢
        have hb10 := Below.mod hb9 hS hw8 hpm
        simp only [Act.put, List.setIfInBounds_toArray, List.set_cons_zero, List.set_cons_succ]
        clear hL8 hS hb9 hw8 hpm hk82 K8
        have hw10 := Nat.le_trans hbw3 hb10.size
        rw [← hstep1, ← hstep2] at hL10
        clear hstep1 hstep2 hcl1 hcl2
        have hLr := hL10.keep (Below.allocS (Below.refl _ _) (.cells #[nilS] 23))
        have hTr : (w10.alloc (.cells #[nilS] 23)).ownsRow base 23 1 (.slice xa (n + 1) xc) (n + 1) (List.replicate (n + 1) nilS) := by
          have := hLr.trow
          unfold TRow at this
          rw [List.length_replicate] at this
          exact this
        have hbr := hb10.alloc hw10 (.cells #[nilS] 23)
        have hwr := Nat.le_trans hbw3 hbr.size
        obtain ⟨b1, b2, b3⟩ := id hL10.blk
        clear hL10 hb10
        go_wp2_with (refine wpList_app1 rfl (.tmp 101) (.tmp 102) 34 23 nilS 24 Try.underlying34 infoTx rfl (by decide) rfl base (n + 1) (.slice xa (n + 1) xc) nilS (List.replicate (n + 1) nilS) rfl hTr w10.heap.size rfl (by simp) rfl (by omega) hwr ?_; intro v' w11 hr hg ho; obtain ⟨na, nc, rfl⟩ := row_form hr; clear b1 b2 b3; obtain ⟨b1, b2, b3⟩ := hLr.blk.of_block (hg.block _ hLr.blk.lt (fun e => hLr.np (.slice xa (n + 1) xc) (by simp) e.symm)) hg.size)
        have hL11 := hLr.vot_app (trow_snoc (by rw [List.length_replicate]; exact hr)) hg ho
        rw [← List.replicate_succ', ← List.replicate_succ'] at hL11
        have hb11 := (hbr.grown hg hwr (fun k hk => (hLr.trow.lt k hk).1)).setCell (p := ⟨p, 3, none⟩) hpb (.slice na (n + 1 + 1) nc)
        exact ⟨⟨n + 1, _, _, _, rfl, by omega, hL11, hb11⟩, by simp [intOf]; omega⟩
    · have e : n = bl.length := by omega
      subst e
      have d1 : decide ((bl.length : Int) < (bl.length : Int)) = false := by simp
      have hwfP := wf_pars bl bl.length
      have hPl := pars_len bl bl.length
      have hVl := views_len bl bl.length
      have HVB := Lib.hid (views_bound HBLB.out bl.length)
      have hTl : (List.replicate (bl.length + 1) ([] : List Bs)).length = bl.length + 1 := by simp
      generalize hPN : parsP bl bl.length = PN at *
      generalize hVV : viewsP bl bl.length = V at *
      clear hPN hVV
      obtain ⟨b1, b2, b3⟩ := id (HB5.out _ hbr)
      go_wp2_with fail
      clear b1 b2 b3
      obtain ⟨w6, hw6⟩ := Below.nm hbr
      subst hw6
      have hIn : InvA l bad PN V (List.replicate PN.length [], List.replicate l.length (0, 0)) := inv_start l bad PN V
      rw [hPl] at hIn
      have HBR := Lib.hid hbr
      have hbw6 := Nat.le_trans hbw3 hbr.size
      have hb6 : Below w.heap.size w w6 := HB3.out.trans (hbr.mono hwb)
      have hL6 := hL
      clear hbr hL
      have B6 : ∀ W, Below base w6 W → Blk W w.heap.size #[.slice ma l.length mc, .slice ba bad.length bc, .slice la bl.length lc, .slice va vt.length vc] := fun W h => HB5.out W (HBR.out.trans h)
      have HB6 := Lib.hid B6
      clear B6 HB5 d1
      obtain ⟨mg, mo, rfl, _⟩ := HM.out.at 0 (by omega)
      have hnmc : ∀ m, m < l.length → ∀ W, Below w.heap.size w W → W.cell? ⟨mg, mo + m * 2, none⟩ = some (.string ⟨List.toArray (nmA l m)⟩) := by
        intro m hm W h
        obtain ⟨g', o', e, _, c, _⟩ := (HM.out.keep h).at m hm
        injection e with e
        injection e with e1 e2 _
        subst e1 e2
        exact c
      obtain ⟨pg, pc, hpv, _, _⟩ := hL6.par 0 (by rw [castP_len]; omega)
      rw [castP_len] at hpv
      subst hpv
      have HPl := Lib.hid hPl
      have HVl := Lib.hid hVl
      have hPn : PN.length ≤ 31 ∧ 0 < PN.length := by omega
      clear hPl hVl
      go_loopw [110, 7, 8, 9] (fun s110 _ _ _ wr => ∃ (n : Nat) (ts : List Value) (T : List (List Bs)) (R : List (Int × Int)), s110 = .int .i64 (n) ∧ n ≤ vt.length ∧ LineV wr base p (.slice (some ⟨mg, mo, none⟩) l.length mc) (.slice (some ⟨pg, 0, none⟩) PN.length pc) uv tv (.slice (some ⟨kd, 0, none⟩) l.length l.length) ts (castP PN) V T R ∧ Hid (InvA l bad PN V (T, R)) ∧ Hid (∀ c, (T.getD c []).length ≤ n) ∧ Hid (∀ c x, x ∈ T.getD c [] → x.length ≤ maxLen) ∧ Below base w6 wr) (fun s110 _ _ _ _ => vt.length - (intOf s110).toNat)
      case atStart => exact ⟨0, _, _, _, rfl, Nat.zero_le _, hL6, Lib.hid hIn, Lib.hid (fun c => by rw [rep_getD]; exact Nat.zero_le _), Lib.hid (fun c x hx => by rw [rep_getD] at hx; cases hx), Below.refl _ _⟩
      case round =>
        obtain ⟨n, ts, T, R, rfl, hn, hL, HI, HN, HNM, hbr⟩ := hrel
        clear hL6 hIn hTl
        have hTl : T.length = PN.length := HI.out.len1
        have hRl : R.length = l.length := HI.out.len2
        by_cases h2 : n < vt.length
        · have d1 : decide ((n : Int) < (vt.length : Int)) = true := by simp; omega
          have hni : 0 ≤ (n : Int) ∧ (n : Int) < (vt.length : Int) := by omega
          obtain ⟨g, off, cap, hva, hg, c0, c1⟩ := HV.out.at n h2
          injection hva with hva _ hvc
          subst hva hvc
          generalize vt.getD n (0, 0) = y at *
          obtain ⟨y1, y2⟩ := y
          simp only at c0 c1
          have hwr : Below w.heap.size w wr := hb6.trans (hbr.mono hwb)
          replace c0 := (hwr.cell (p := ⟨g, off + n * 2, none⟩) hg).trans c0
          replace c1 := (hwr.cell (p := ⟨g, off + n * 2 + 1, none⟩) hg).trans c1
          as_aux_lemma =>
            obtain ⟨b1, b2, b3⟩ := id (HB6.out _ hbr)
            obtain ⟨m, hm⟩ : ∃ m, m = modN y1 l.length := ⟨_, rfl⟩
            have hml : m < l.length := by rw [hm]; exact modN_lt _ _ (by omega)
            have hbe := below_any y1 l.length (by omega) (by omega)
            rw [← hm] at hbe
            clear hm
            go_wp2_with fail
            refine (hbe _).mono ?_
            rintro e w' ⟨rfl, rfl⟩
            clear hbe b1 b2 b3 c0 c1
            go_wp2_with fail
            have hL7 := hL.keep (Below.allocS (Below.refl _ _) (.cells #[.int .i64 (y1), .int .i64 (y2)] 38))
            have K7 : Blk (wr.alloc (.cells #[.int .i64 (y1), .int .i64 (y2)] 38)) wr.heap.size #[.int .i64 (y1), .int .i64 (y2)] := Blk.new _ _ _
            have hb7 : Below base w6 (wr.alloc (.cells #[.int .i64 (y1), .int .i64 (y2)] 38)) := hbr.alloc (Nat.le_trans hbw6 hbr.size) _
            clear hL hbr hwr
            generalize wr.heap.size = k7 at *
            generalize wr.alloc (.cells #[.int .i64 (y1), .int .i64 (y2)] 38) = w7 at *
            have hw7 := Nat.le_trans hbw6 hb7.size
            have hwr7 : Below w.heap.size w w7 := hb6.trans (hb7.mono hwb)
            have hmi : 0 ≤ (m : Int) ∧ (m : Int) < (l.length : Int) := by omega
            have hbif := bad_iff (nmA l m) bad
            have hnms := name_short HC.out m hml
            have hbo := fun q W h1 h2 => mboth_len (.slice (some ⟨q, 0, none⟩) 1 1) (.slice ba bad.length bc) [nmA l m] bad (by simp) (by omega) (one_names hnms) HBN.out W h1 h2
            generalize (bothP [nmA l m] bad).length = zl at *
            obtain ⟨bd, hbd⟩ : ∃ bd, bd = decide ((0 : Int) < (zl : Int)) := ⟨_, rfl⟩
            rw [← hbd] at hbif
            have d5 : decide ((0 : Int) < (zl : Int)) = bd := hbd.symm
            have d6 : decide (0 < zl) = bd := by rw [hbd]; simp
            clear hbd
            refine wpH_start (by kernel_rfl) (fun hS => ?_)
            (refine wpH_pure 0 ?_ (oi := { dst := some 120, op := Op.fieldAddr 26 (Operand.tmp 1) 0, type := 0, pos := "theorems.go:112", after := #[], guard := none }) rfl (by kernel_rfl) (by kernel_rfl) (by kernel_rfl) (by rfl) hS (fun _ _ _ h => h) ?_ ?_; rotate_left; focus (intro w; go_simp; try with_reducible rfl))
            try simp only [Act.put, List.setIfInBounds_toArray, List.set_cons_zero, List.set_cons_succ]
            refine wpH_load 1 (.slice (some ⟨mg, mo, none⟩) l.length mc) (oi := { dst := some 121, op := Op.load 22 (Operand.tmp 120), type := 22, pos := "theorems.go:112", after := #[{ on := 0, ground := Ground.data }], guard := none }) rfl (by kernel_rfl) (by kernel_rfl) (by kernel_rfl) (by rfl) hS (fun _ _ _ h => h) (fun w hb2 => (by have c := (HB6.out _ (hb7.trans (hb2.mono hw7))).cell 0; go_simp; try rfl)) ?_
            try simp only [Act.put, List.setIfInBounds_toArray, List.set_cons_zero, List.set_cons_succ]
            (refine wpH_pure 2 ?_ (oi := { dst := some 122, op := Op.move (Operand.tmp 8), type := 3, pos := "theorems.go:112", after := #[], guard := none }) rfl (by kernel_rfl) (by kernel_rfl) (by kernel_rfl) (by rfl) hS (fun _ _ _ h => h) ?_ ?_; rotate_left; focus (intro w; go_simp; try with_reducible rfl))
            try simp only [Act.put, List.setIfInBounds_toArray, List.set_cons_zero, List.set_cons_succ]
            (refine wpH_pure 3 ?_ (oi := { dst := some 123, op := Op.indexAddr 22 (Operand.tmp 121) (Operand.tmp 122), type := 0, pos := "theorems.go:112", after := #[{ on := 1, ground := Ground.data }, { on := 2, ground := Ground.data }], guard := none }) rfl (by kernel_rfl) (by kernel_rfl) (by kernel_rfl) (by rfl) hS (fun _ _ _ h => h) ?_ ?_; rotate_left; focus (intro w; go_simp; try with_reducible rfl))
            try simp only [Act.put, List.setIfInBounds_toArray, List.set_cons_zero, List.set_cons_succ]
            (refine wpH_pure 4 ?_ (oi := { dst := some 124, op := Op.fieldAddr 42 (Operand.tmp 123) 0, type := 0, pos := "theorems.go:112", after := #[{ on := 3, ground := Ground.data }], guard := none }) rfl (by kernel_rfl) (by kernel_rfl) (by kernel_rfl) (by rfl) hS (fun _ _ _ h => h) ?_ ?_; rotate_left; focus (intro w; go_simp; try with_reducible rfl))
            try simp only [Act.put, List.setIfInBounds_toArray, List.set_cons_zero, List.set_cons_succ]
            refine wpH_load 5 (.string ⟨List.toArray (nmA l m)⟩) (oi := { dst := some 125, op := Op.load 9 (Operand.tmp 124), type := 9, pos := "theorems.go:112", after := #[{ on := 4, ground := Ground.data }], guard := none }) rfl (by kernel_rfl) (by kernel_rfl) (by kernel_rfl) (by rfl) hS (fun _ _ _ h => h) (fun w hb2 => (by have c := hnmc m hml w (hwr7.trans (hb2.mono hwr7.size)); go_simp; try rfl)) ?_
            try simp only [Act.put, List.setIfInBounds_toArray, List.set_cons_zero, List.set_cons_succ]
            (refine wpH_pure 7 ?_ (oi := { dst := some 127, op := Op.fieldAddr 26 (Operand.tmp 1) 1, type := 0, pos := "theorems.go:112", after := #[], guard := none }) rfl (by kernel_rfl) (by kernel_rfl) (by kernel_rfl) (by rfl) hS (fun _ _ _ h => h) ?_ ?_; rotate_left; focus (intro w; go_simp; try with_reducible rfl))
            try simp only [Act.put, List.setIfInBounds_toArray, List.set_cons_zero, List.set_cons_succ]
            refine wpH_load 8 (.slice ba bad.length bc) (oi := { dst := some 128, op := Op.load 23 (Operand.tmp 127), type := 23, pos := "theorems.go:112", after := #[{ on := 7, ground := Ground.data }], guard := none }) rfl (by kernel_rfl) (by kernel_rfl) (by kernel_rfl) (by rfl) hS (fun _ _ _ h => h) (fun w hb2 => (by have c := (HB6.out _ (hb7.trans (hb2.mono hw7))).cell 1; go_simp; try rfl)) ?_
            try simp only [Act.put, List.setIfInBounds_toArray, List.set_cons_zero, List.set_cons_succ]
            refine wpH_op 6 (oi := { dst := some 126, op := Op.buildSlice 23 1 #[(0, Operand.tmp 125)], type := 23, pos := "theorems.go:112", after := #[{ on := 5, ground := Ground.data }], guard := none }) rfl (by kernel_rfl) (by rfl) ?_
            refine wp_newK 9 #[.string ⟨List.toArray (nmA l m)⟩] (fun k => .slice (some ⟨k, 0, none⟩) 1 1) (fun w => by go_simp; try rfl) (fun q w' hk hh hlt hbk => ?_)
            have HQ := ss_one hh hlt
            refine hold_and (hS.trans (hbk.mono hS.size)) (fun hS => ?_)
            clear hk hh hlt hbk
            try simp only [Act.put, List.setIfInBounds_toArray, List.set_cons_zero, List.set_cons_succ]
            refine wpH_call 9 (oi := { dst := some 129, op := Op.call { callee := Callee.value (Operand.func 9), args := #[Operand.tmp 126, Operand.tmp 128], argTypes := #[23, 23] }, type := 23, pos := "theorems.go:112", after := #[{ on := 6, ground := Ground.data }, { on := 8, ground := Ground.data }], guard := none }) rfl (by kernel_rfl) (by rfl) (hbo _ _ HQ (HB.out.keep (hwr7.trans (hS.mono hwr7.size)))) ?_ ?_
            · (go_simp; try rfl)
            rintro e w' ⟨za, zc, rfl, hbx⟩
            refine ⟨_, rfl, hS.trans (hbx.mono hS.size), ?_⟩
            replace hS := hS.trans (hbx.mono hS.size)
            try simp only [Act.put, List.setIfInBounds_toArray, List.set_cons_zero, List.set_cons_succ]
            (refine wpH_pure 10 ?_ (oi := { dst := some 130, op := Op.call { callee := Callee.builtin Builtin.len, args := #[Operand.tmp 129], argTypes := #[23] }, type := 3, pos := "theorems.go:112", after := #[{ on := 9, ground := Ground.data }], guard := none }) rfl (by kernel_rfl) (by kernel_rfl) (by kernel_rfl) (by rfl) hS (fun _ _ _ h => h) ?_ ?_; rotate_left; focus (intro w; go_simp; try with_reducible rfl))
            try simp only [Act.put, List.setIfInBounds_toArray, List.set_cons_zero, List.set_cons_succ]
            (refine wpH_pure 11 ?_ (oi := { dst := some 131, op := Op.binOp BinOp.gtr 3 (Operand.tmp 130) (Operand.const (Value.int IntKind.i64 0)) 3, type := 4, pos := "theorems.go:112", after := #[{ on := 10, ground := Ground.data }], guard := none }) rfl (by kernel_rfl) (by kernel_rfl) (by kernel_rfl) (by rfl) hS (fun _ _ _ h => h) ?_ ?_; rotate_left; focus (intro w; go_simp; try with_reducible rfl))
            try simp only [Act.put, List.setIfInBounds_toArray, List.set_cons_zero, List.set_cons_succ]
            (refine wpH_pure 12 ?_ (oi := { dst := some 9, op := Op.assign (Operand.tmp 131), type := 4, pos := "theorems.go:112", after := #[{ on := 11, ground := Ground.data }, { on := 9, ground := Ground.chain }, { on := 0, ground := Ground.phase }, { on := 1, ground := Ground.phase }, { on := 2, ground := Ground.phase }, { on := 3, ground := Ground.phase }, { on := 4, ground := Ground.phase }, { on := 5, ground := Ground.phase }, { on := 6, ground := Ground.phase }, { on := 7, ground := Ground.phase }, { on := 8, ground := Ground.phase }, { on := 9, ground := Ground.phase }, { on := 10, ground := Ground.phase }, { on := 11, ground := Ground.phase }], guard := none }) rfl (by kernel_rfl) (by kernel_rfl) (by kernel_rfl) (by rfl) hS (fun _ _ _ h => h) ?_ ?_; rotate_left; focus (intro w; go_simp; try with_reducible rfl))
            try simp only [Act.put, List.setIfInBounds_toArray, List.set_cons_zero, List.set_cons_succ]
            refine wpAnyH_done (by kernel_rfl) ?_ _
            obtain ⟨w8, hw8e⟩ := Below.nm hS
            subst hw8e
            have hL8 := hL7.keep hS
            have K8 := K7.keep hS
            have hb8 := hb7.trans (hS.mono hw7)
            have hw8 := Nat.le_trans hbw6 hb8.size
            clear hS hL7 K7 hb7 hw7 hwr7 hbo d5 d6
            obtain ⟨b, hb⟩ : ∃ b, b = modN y2 PN.length := ⟨_, rfl⟩
            have hbP : b < PN.length := by rw [hb]; exact modN_lt _ _ (by omega)
            have hbe := below_any y2 PN.length (by omega) (by omega)
            rw [← hb] at hbe
            clear hb
            have hMk : ∀ W, Below base w8 W → MS W (.slice (some ⟨mg, mo, none⟩) l.length mc) l := fun W h => HM.out.keep (hb6.trans ((hb8.trans h).mono hwb))
            have hvo := fun W (h0 : base ≤ W.heap.size) (h1 : LineV W base p (.slice (some ⟨mg, mo, none⟩) l.length mc) (.slice (some ⟨pg, 0, none⟩) PN.length pc) uv tv (.slice (some ⟨kd, 0, none⟩) l.length l.length) ts (castP PN) V T R) h2 => lvote_any PN hwfP l m b bd hml hbP (by rw [HVl.out, HPl.out]) hTl hRl (by omega) (by omega) (fun c => by have := HN.out c; omega) (names_at HNM.out) W h0 h1 h2
            clear hTl hRl
            go_wp2_with fail
            refine wpH_startB (base) (by kernel_rfl) (fun hS => ?_)
            have hLr := hL8.keep ((Below.refl _ _).drew)
            replace K8 := K8.drew
            (refine wpH_pure 0 ?_ (oi := { dst := some 132, op := Op.move (Operand.tmp 3), type := 32, pos := "theorems.go:113", after := #[], guard := none }) rfl (by kernel_rfl) (by kernel_rfl) (by kernel_rfl) (by rfl) hS (fun _ _ _ h => h) ?_ ?_; rotate_left; focus (intro w; go_simp; try with_reducible rfl))
            try simp only [Act.put, List.setIfInBounds_toArray, List.set_cons_zero, List.set_cons_succ]
            (refine wpH_pure 1 ?_ (oi := { dst := some 133, op := Op.move (Operand.tmp 8), type := 3, pos := "theorems.go:113", after := #[], guard := none }) rfl (by kernel_rfl) (by kernel_rfl) (by kernel_rfl) (by rfl) hS (fun _ _ _ h => h) ?_ ?_; rotate_left; focus (intro w; go_simp; try with_reducible rfl))
            try simp only [Act.put, List.setIfInBounds_toArray, List.set_cons_zero, List.set_cons_succ]
            (refine wpH_pure 2 ?_ (oi := { dst := some 134, op := Op.indexAddr 38 (Operand.tmp 7) (Operand.const (Value.int IntKind.i64 1)), type := 0, pos := "theorems.go:113", after := #[], guard := none }) rfl (by kernel_rfl) (by kernel_rfl) (by kernel_rfl) (by rfl) hS (fun _ _ _ h => h) ?_ ?_; rotate_left; focus (intro w; go_simp; try with_reducible rfl))
            try simp only [Act.put, List.setIfInBounds_toArray, List.set_cons_zero, List.set_cons_succ]
            (refine wpH_pure 4 ?_ (oi := { dst := some 136, op := Op.move (Operand.tmp 3), type := 32, pos := "theorems.go:113", after := #[], guard := none }) rfl (by kernel_rfl) (by kernel_rfl) (by kernel_rfl) (by rfl) hS (fun _ _ _ h => h) ?_ ?_; rotate_left; focus (intro w; go_simp; try with_reducible rfl))
            try simp only [Act.put, List.setIfInBounds_toArray, List.set_cons_zero, List.set_cons_succ]
            (refine wpH_pure 5 ?_ (oi := { dst := some 137, op := Op.nilCheck (Operand.tmp 136), type := 0, pos := "theorems.go:113", after := #[{ on := 4, ground := Ground.data }], guard := none }) rfl (by kernel_rfl) (by kernel_rfl) (by kernel_rfl) (by rfl) hS (fun _ _ _ h => h) ?_ ?_; rotate_left; focus (intro w; go_simp; try with_reducible rfl))
            try simp only [Act.put, List.setIfInBounds_toArray, List.set_cons_zero, List.set_cons_succ]
            (refine wpH_pure 6 ?_ (oi := { dst := some 138, op := Op.fieldAddr 37 (Operand.tmp 137) 1, type := 0, pos := "theorems.go:113", after := #[{ on := 5, ground := Ground.data }], guard := none }) rfl (by kernel_rfl) (by kernel_rfl) (by kernel_rfl) (by rfl) hS (fun _ _ _ h => h) ?_ ?_; rotate_left; focus (intro w; go_simp; try with_reducible rfl))
            try simp only [Act.put, List.setIfInBounds_toArray, List.set_cons_zero, List.set_cons_succ]
            (refine wpH_pure 10 ?_ (oi := { dst := some 142, op := Op.move (Operand.tmp 9), type := 4, pos := "theorems.go:113", after := #[], guard := none }) rfl (by kernel_rfl) (by kernel_rfl) (by kernel_rfl) (by rfl) hS (fun _ _ _ h => h) ?_ ?_; rotate_left; focus (intro w; go_simp; try with_reducible rfl))
            try simp only [Act.put, List.setIfInBounds_toArray, List.set_cons_zero, List.set_cons_succ]
            refine wpAnyH_all (rs := [3, 7]) (by kernel_rfl) (by simp) (fun jj hjj => ?_)
            simp only [List.mem_cons, List.not_mem_nil, or_false] at hjj
            rcases hjj with rfl | rfl
            refine wpO_op (oi := { dst := some 135, op := Op.load 3 (Operand.tmp 134), type := 3, pos := "theorems.go:113", after := #[{ on := 2, ground := Ground.data }], guard := none }) rfl (by rfl) ?_
            refine wp_loads (.int .i64 (y2)) (by have c := K8.cell 1; go_simp; try rfl) ?_
            refine ⟨hS, ?_⟩
            try simp only [Act.put, List.setIfInBounds_toArray, List.set_cons_zero, List.set_cons_succ]
            refine wpH_op 7 (oi := { dst := some 139, op := Op.load 33 (Operand.tmp 138), type := 33, pos := "theorems.go:113", after := #[{ on := 6, ground := Ground.data }], guard := none }) rfl (by kernel_rfl) (by rfl) ?_
            refine wp_loads (.slice (some ⟨pg, 0, none⟩) PN.length pc) (by have c := hLr.blk.cell 1; go_simp; try rfl) ?_
            refine ⟨hS, ?_⟩
            try simp only [Act.put, List.setIfInBounds_toArray, List.set_cons_zero, List.set_cons_succ]
            (refine wpH_pure 8 ?_ (oi := { dst := some 140, op := Op.call { callee := Callee.builtin Builtin.len, args := #[Operand.tmp 139], argTypes := #[33] }, type := 3, pos := "theorems.go:113", after := #[{ on := 7, ground := Ground.data }], guard := none }) rfl (by kernel_rfl) (by kernel_rfl) (by kernel_rfl) (by rfl) hS (fun _ _ _ h => h) ?_ ?_; rotate_left; focus (intro w; go_simp; try with_reducible rfl))
            try simp only [Act.put, List.setIfInBounds_toArray, List.set_cons_zero, List.set_cons_succ]
            refine wpH_call 9 (oi := { dst := some 141, op := Op.call { callee := Callee.value (Operand.func 8), args := #[Operand.tmp 135, Operand.tmp 140], argTypes := #[3, 3] }, type := 3, pos := "theorems.go:113", after := #[{ on := 3, ground := Ground.data }, { on := 8, ground := Ground.data }], guard := none }) rfl (by kernel_rfl) (by rfl) (hbe _) ?_ ?_
            · (go_simp; try rfl)
            rintro e w' ⟨rfl, rfl⟩
            refine ⟨_, rfl, hS, ?_⟩
            try simp only [Act.put, List.setIfInBounds_toArray, List.set_cons_zero, List.set_cons_succ]
            refine wpH_call 11 (oi := { dst := some 143, op := Op.call { callee := Callee.value (Operand.func 10), args := #[Operand.tmp 132, Operand.tmp 133, Operand.tmp 141, Operand.tmp 142], argTypes := #[32, 3, 3, 4] }, type := 0, pos := "theorems.go:113", after := #[{ on := 0, ground := Ground.data }, { on := 1, ground := Ground.data }, { on := 9, ground := Ground.data }, { on := 10, ground := Ground.data }, { on := 9, ground := Ground.chain }], guard := none }) rfl (by kernel_rfl) (by rfl) (hvo _ (Nat.le_trans hw8 hS.size) hLr (fun W h => hMk W (hS.trans h))) ?_ ?_
            · (go_simp; try rfl)
            rintro e w' ⟨rfl, ⟨ts', hLv⟩, hbv⟩
            refine ⟨_, rfl, hS.trans hbv, ?_⟩
            replace hS := hS.trans hbv
            try simp only [Act.put, List.setIfInBounds_toArray, List.set_cons_zero, List.set_cons_succ]
            refine wpAnyH_done (by kernel_rfl) ?_ _
            rotate_left
            refine wpO_op (oi := { dst := some 139, op := Op.load 33 (Operand.tmp 138), type := 33, pos := "theorems.go:113", after := #[{ on := 6, ground := Ground.data }], guard := none }) rfl (by rfl) ?_
            refine wp_loads (.slice (some ⟨pg, 0, none⟩) PN.length pc) (by have c := hLr.blk.cell 1; go_simp; try rfl) ?_
            refine ⟨hS, ?_⟩
            try simp only [Act.put, List.setIfInBounds_toArray, List.set_cons_zero, List.set_cons_succ]
            (refine wpH_pure 8 ?_ (oi := { dst := some 140, op := Op.call { callee := Callee.builtin Builtin.len, args := #[Operand.tmp 139], argTypes := #[33] }, type := 3, pos := "theorems.go:113", after := #[{ on := 7, ground := Ground.data }], guard := none }) rfl (by kernel_rfl) (by kernel_rfl) (by kernel_rfl) (by rfl) hS (fun _ _ _ h => h) ?_ ?_; rotate_left; focus (intro w; go_simp; try with_reducible rfl))
            try simp only [Act.put, List.setIfInBounds_toArray, List.set_cons_zero, List.set_cons_succ]
            refine wpH_op 3 (oi := { dst := some 135, op := Op.load 3 (Operand.tmp 134), type := 3, pos := "theorems.go:113", after := #[{ on := 2, ground := Ground.data }], guard := none }) rfl (by kernel_rfl) (by rfl) ?_
            refine wp_loads (.int .i64 (y2)) (by have c := K8.cell 1; go_simp; try rfl) ?_
            refine ⟨hS, ?_⟩
            try simp only [Act.put, List.setIfInBounds_toArray, List.set_cons_zero, List.set_cons_succ]
            refine wpH_call 9 (oi := { dst := some 141, op := Op.call { callee := Callee.value (Operand.func 8), args := #[Operand.tmp 135, Operand.tmp 140], argTypes := #[3, 3] }, type := 3, pos := "theorems.go:113", after := #[{ on := 3, ground := Ground.data }, { on := 8, ground := Ground.data }], guard := none }) rfl (by kernel_rfl) (by rfl) (hbe _) ?_ ?_
            · (go_simp; try rfl)
            rintro e w' ⟨rfl, rfl⟩
            refine ⟨_, rfl, hS, ?_⟩
            try simp only [Act.put, List.setIfInBounds_toArray, List.set_cons_zero, List.set_cons_succ]
            refine wpH_call 11 (oi := { dst := some 143, op := Op.call { callee := Callee.value (Operand.func 10), args := #[Operand.tmp 132, Operand.tmp 133, Operand.tmp 141, Operand.tmp 142], argTypes := #[32, 3, 3, 4] }, type := 0, pos := "theorems.go:113", after := #[{ on := 0, ground := Ground.data }, { on := 1, ground := Ground.data }, { on := 9, ground := Ground.data }, { on := 10, ground := Ground.data }, { on := 9, ground := Ground.chain }], guard := none }) rfl (by kernel_rfl) (by rfl) (hvo _ (Nat.le_trans hw8 hS.size) hLr (fun W h => hMk W (hS.trans h))) ?_ ?_
            · (go_simp; try rfl)
            rintro e w' ⟨rfl, ⟨ts', hLv⟩, hbv⟩
            refine ⟨_, rfl, hS.trans hbv, ?_⟩
            replace hS := hS.trans hbv
            try simp only [Act.put, List.setIfInBounds_toArray, List.set_cons_zero, List.set_cons_succ]
            refine wpAnyH_done (by kernel_rfl) ?_ _
            rotate_left
            all_goals go_wp2_with fail
            all_goals exact ⟨⟨n + 1, ts', _, _, rfl, by omega, hLv, Lib.hid (HI.out.vote HC.out bd m b hml hbP hbif), Lib.hid (voteA_len l PN V bd m b (T, R) (by have := HI.out.len1; simp only at this ⊢; omega) n HN.out), Lib.hid (voteA_names l PN V bd m b (T, R) (by have := HI.out.len1; simp only at this ⊢; omega) (by have := name_short HC.out m hml; unfold maxLen; omega) HNM.out), hb8.trans hS⟩, by simp [intOf]; omega⟩
        · have e : n = vt.length := by omega
          subst e
          have d1 : decide ((vt.length : Int) < (vt.length : Int)) = false := by simp
          obtain ⟨w9, hw9⟩ := Below.nm hbr
          subst hw9
          have hL9 := hL
          have hw9 : Below w.heap.size w w9 := hb6.trans (hbr.mono hwb)
          have hMS9 : MS w9 (.slice (some ⟨mg, mo, none⟩) l.length mc) l := HM.out.keep hw9
          obtain ⟨ua, uc, huv⟩ := row_form hL.vrow
          subst huv
          obtain ⟨b1, b2, b3⟩ := id hL.blk
          clear hL hbr HB6
          have hHT := Lib.hid hTl
          clear hTl hRl hn
          go_wp2_with fail
          exact agree_end l bad bl vt w base p mg mo mc pg pc kd uc va ua vc tv ts PN V T R hsb hsl hsv hsm HBN hcl HC h20 h30 HXY h300 HVB hwfP HPl HVl hPn HI HNM HN hHT hpb hwb w9 hw9 hMS9 hL9 (by assumption)
end Go.Proofs.Ytbnjhfkmdejeaaa
