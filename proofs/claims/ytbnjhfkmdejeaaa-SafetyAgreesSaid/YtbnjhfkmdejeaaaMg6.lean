/- Held, Above. -/
import Derived.Test.YtbnjhfkmdejeaaaRows
import Derived.Test.YtbnjhfkmdejeaaaMg3
import Derived.Test.YtbnjhfkmdejeaaaMg5
set_option linter.unnecessarySimpa false

/- General tools for walks through drawn regions. -/
set_option linter.unusedSimpArgs false
set_option linter.unusedVariables false
namespace Go.Proofs.Ytbnjhfkmdejeaaa
open Go.RowKit

theorem hold_and {a b : Prop} (h : a) (k : a → b) : a ∧ b := ⟨h, k h⟩
theorem wp_loads {P : Program} {o : Oper} {a : Act} {w : World} {K : Act → World → Prop} {Q : Exit → Act → World → Prop} (u : Value) (hv : (execOp a.eval o).run P w = .ok (.value u) w) (h : K (a.put o.dst u) w) : o.wp P a w K Q := by
  unfold Oper.wp
  rw [hv]
  exact h
theorem wpH_startB {P : Program} {id : Nat} {ops : Array Oper} {Q : Exit → Act → World → Prop} {a : Act} {w : World} (B : Nat) (hm : P.follows .mixedOrders = true)
    (h : Below B w w.drew → wpAnyH P .any ops Q (Below B w) ops.size (Array.replicate ops.size false) a w.drew) : (Code.region id ops true).wp P Q a w :=
  wp_region_held_drew hm (Below.refl _ _).drew h


theorem wpO_op {P : Program} {ops : Array Oper} {Q : Exit → Act → World → Prop} {a : Act} {w : World} {K : Act → World → Prop} {i : Nat} {oi : Oper} (hi : ops[i]? = some oi) (hw : Region.wanted oi (yielded ops a.tmps) = true) (h : oi.wp P a w K Q) : wpOp P ops Q i K a w := by
  unfold wpOp
  simp only [hi, hw, if_true]
  exact .inl h
theorem wpO_call {P : Program} {ops : Array Oper} {Q : Exit → Act → World → Prop} {S : World → Prop} {a : Act} {w : World} {K : Act → World → Prop} {i : Nat} {oi : Oper} (hi : ops[i]? = some oi) (hw : Region.wanted oi (yielded ops a.tmps) = true) {f : FuncId} {args : Array Value} {R : Ending → World → Prop} (hc : Calls P f args w R)
    (hv : (execOp a.eval oi).run P w = .ok (.enter f args) w) (h : ∀ e w', R e w' → ∃ v, e = .returned v ∧ S w' ∧ K (a.put oi.dst v) w') : wpOp P ops Q i (fun a' w' => S w' ∧ K a' w') a w := by
  unfold wpOp
  simp only [hi, hw, if_true]
  refine .inl ?_
  unfold Oper.wp
  rw [hv, Oper.upon_enter]
  refine hc.mono fun e w' hR => ?_
  obtain ⟨v, rfl, h1, h2⟩ := h e w' hR
  exact ⟨h1, h2⟩
/-- A post of the normal exit alone. -/
def NormQ (R : Act → World → Prop) : Exit → Act → World → Prop
  | .normal, a, w => R a w
  | _, _, _ => False
theorem wp_region_ex {P : Program} {c : Code} {Q : Exit → Act → World → Prop} {a : Act} {w : World} {ι : Type} (f : ι → Act → Act) (F : ι → World → Prop) (h : c.wp P (NormQ fun a' w' => ∃ i, a' = f i a ∧ F i w') a w) (k : ∀ i w', F i w' → Q .normal (f i a) w') : c.wp P Q a w :=
  Code.wp_mono (fun e a' w' hq => by
    cases e
    case normal =>
      obtain ⟨i, ha, hF⟩ : ∃ i, a' = f i a ∧ F i w' := hq
      subst ha
      exact k i w' hF
    all_goals exact absurd hq id) h
/-- A new block of zeros, its number a name. -/
theorem wp_allocK {P : Program} {o : Oper} {a : Act} {w : World} {K : Act → World → Prop} {Q : Exit → Act → World → Prop} (t : TypeId) (ho : o.op = .alloc t) (z : Array Value) (hz : ∀ w : World, (execOp a.eval o).run P w = .ok (.value (.pointer (some ⟨w.heap.size, 0, none⟩))) (w.alloc (.cells z t)))
    (h : ∀ k w', w.heap.size ≤ k → Blk w' k z → Below w.heap.size w w' → K (a.put o.dst (.pointer (some ⟨k, 0, none⟩))) w') : o.wp P a w K Q := by
  unfold Oper.wp
  rw [hz w]
  exact h _ _ (Nat.le_refl _) (Blk.new _ _ _) (Below.allocS (Below.refl _ _) _)
/-- A new block, its number a name. -/
theorem wp_newK {P : Program} {o : Oper} {a : Act} {w : World} {K : Act → World → Prop} {Q : Exit → Act → World → Prop} (t : TypeId) (z : Array Value) (u : Nat → Value) (hz : ∀ w : World, (execOp a.eval o).run P w = .ok (.value (u w.heap.size)) (w.alloc (.cells z t)))
    (h : ∀ k w', w.heap.size ≤ k → w'.heap[k]? = some (.cells z t) → k < w'.heap.size → Below w.heap.size w w' → K (a.put o.dst (u k)) w') : o.wp P a w K Q := by
  unfold Oper.wp
  rw [hz w]
  exact h _ _ (Nat.le_refl _) (heap_alloc_new w _) (by simp) (Below.allocS (Below.refl _ _) _)
theorem Blk.of_heap {w : World} {k : Nat} {z : Array Value} {t : TypeId} (hh : w.heap[k]? = some (.cells z t)) (hk : k < w.heap.size) : Blk w k z :=
  ⟨fun o => by simp [World.cell?, hh], fun o => by simp [World.frozen?, hh], hk⟩
end Go.Proofs.Ytbnjhfkmdejeaaa

/- Walks: does a block stand on the line up to another one; has a block a quorum. -/
set_option linter.unusedSimpArgs false
set_option linter.unusedVariables false
namespace Go.Proofs.Ytbnjhfkmdejeaaa
open Go.RowKit Pl

def castP (P : List Nat) : List Int := P.map fun x : Nat => Int.ofNat x
theorem castP_len (P : List Nat) : (castP P).length = P.length := by simp [castP]
theorem castP_at (P : List Nat) (i : Nat) : (castP P).getD i 0 = ((par P i : Nat) : Int) := by
  unfold castP par
  rw [List.getD_eq_getElem?_getD, List.getD_eq_getElem?_getD, List.getElem?_map]
  cases P[i]? <;> rfl
theorem par_lt {P : List Nat} {V : List Int} (hP : WfP P V) {b : Nat} (hb : b < P.length) : par P b < P.length := by
  by_cases h : b = 0
  · subst h; rw [hP.root]; exact hb
  · have := hP.up b (by omega) hb; omega
section
variable {base p : Nat} {sv pv vv tv rr : Value} {ts : List Value} {V : List Int} {T : List (List Bs)} {R : List (Int × Int)}
set_option maxRecDepth 100000 in
theorem above_any (P : List Nat) (hP : WfP P V) (a b : Nat) (ha : Anc P a b) (hb : b < P.length) (hs : P.length ≤ 1000) (w : World) (hL : LineV w base p sv pv vv tv rr ts (castP P) V T R) :
    Calls Try.prog 13 #[.pointer (some ⟨p, 0, none⟩), .int .i64 ((a : Int)), .int .i64 ((b : Int))] w fun e w' => e = .returned (.bool true) ∧ Below w.heap.size w w' := by
  have hle := anc_le hP ha hb
  obtain ⟨b1, b2, b3⟩ := id hL.blk
  have HL := Lib.hid hL
  have HP := Lib.hid hP
  clear hL hP
  go_enter Try.func13, Try.ntmps13
  go_wp2_with fail
  go_loopw [2] (fun s2 wr => ∃ (c : Nat), s2 = .int .i64 (c) ∧ c < P.length ∧ Anc P a c ∧ Below w.heap.size w wr) (fun s2 _ => (intOf s2).toNat)
  case atStart => exact ⟨b, rfl, hb, ha, Below.refl _ _⟩
  case round =>
    obtain ⟨c, rfl, hc, hac, hbr⟩ := hrel
    have hL2 := HL.out.keep hbr
    clear b1 b2 b3
    obtain ⟨b1, b2, b3⟩ := id hL2.blk
    obtain ⟨g, cap, rfl, hg, q0⟩ := hL2.par c (by rw [castP_len]; exact hc)
    have hlen := castP_len P
    rw [castP_at] at q0
    rw [hlen] at b1
    have hle2 := anc_le HP.out hac hc
    clear hL2
    by_cases h : a < c
    · have d1 : decide ((a : Int) < (c : Int)) = true := by simp; omega
      have hup := HP.out.up c (by omega) hc
      have hi : 0 ≤ (c : Int) ∧ (c : Int) < (P.length : Int) := by omega
      have hanc : Anc P a (par P c) := by
        cases hac with
        | refl => omega
        | step _ h2 => exact h2
      generalize par P c = d at *
      go_wp2_with fail
      exact ⟨⟨d, rfl, by omega, hanc, hbr⟩, by simp [intOf]; omega⟩
    · have e : a = c := by omega
      subst e
      have d1 : decide ((a : Int) < (a : Int)) = false := by simp
      go_wp2_with fail
      all_goals (go_ret; exact ⟨rfl, hbr⟩)
set_option maxRecDepth 100000 in
theorem certified_any (P : List Int) (l : List (Bs × Int)) (b : Nat) (hb : b < T.length) (hn : (T.getD b []).length ≤ 1000) (hnl : ∀ i, i < (T.getD b []).length → ((T.getD b []).getD i []).length ≤ maxLen) (w : World) (hL : LineV w base p sv pv vv tv rr ts P V T R) (hM : MS w sv l) :
    Calls Try.prog 11 #[.pointer (some ⟨p, 0, none⟩), .int .i64 ((b : Int))] w fun e w' => e = .returned (.bool (certA l T b)) ∧ Below w.heap.size w w' := by
  obtain ⟨b1, b2, b3⟩ := id hL.blk
  have HL := Lib.hid hL
  have HM := Lib.hid hM
  by_cases h0 : b = 0
  · subst h0
    have hc : certA l T 0 = true := by simp [certA]
    rw [hc]
    clear hL hM
    go_enter Try.func11, Try.ntmps11
    go_wp2_with fail
    refine wpH_start (by kernel_rfl) (fun hS => ?_)
    (refine wpH_pure 0 ?_ (oi := { dst := some 5, op := Op.move (Operand.tmp 1), type := 3, pos := "theorems.go:69", after := #[], guard := none }) rfl (by kernel_rfl) (by kernel_rfl) (by kernel_rfl) (by rfl) hS (fun _ _ _ h => h) ?_ ?_; rotate_left; focus (intro w; go_simp; try with_reducible rfl))
    try simp only [Act.put, List.setIfInBounds_toArray, List.set_cons_zero, List.set_cons_succ]
    (refine wpH_pure 1 ?_ (oi := { dst := some 6, op := Op.binOp BinOp.eql 3 (Operand.tmp 5) (Operand.const (Value.int IntKind.i64 0)) 3, type := 4, pos := "theorems.go:69", after := #[{ on := 0, ground := Ground.data }], guard := none }) rfl (by kernel_rfl) (by kernel_rfl) (by kernel_rfl) (by rfl) hS (fun _ _ _ h => h) ?_ ?_; rotate_left; focus (intro w; go_simp; try with_reducible rfl))
    try simp only [Act.put, List.setIfInBounds_toArray, List.set_cons_zero, List.set_cons_succ]
    (refine wpH_pure 2 ?_ (oi := { dst := some 7, op := Op.move (Operand.tmp 6), type := 4, pos := "theorems.go:69", after := #[{ on := 1, ground := Ground.data }], guard := none }) rfl (by kernel_rfl) (by kernel_rfl) (by kernel_rfl) (by rfl) hS (fun _ _ _ h => h) ?_ ?_; rotate_left; focus (intro w; go_simp; try with_reducible rfl))
    try simp only [Act.put, List.setIfInBounds_toArray, List.set_cons_zero, List.set_cons_succ]
    (first | (refine wpH_skip 3 (oi := { dst := some 8, op := Op.move (Operand.tmp 0), type := 32, pos := "theorems.go:69", after := #[{ on := 2, ground := Ground.guard }], guard := some (2, false) }) rfl (by kernel_rfl) (by kernel_rfl) (by kernel_rfl) (by rfl) hS (fun _ _ _ h => h) ?_) | (refine wpH_pure 3 ?_ (oi := { dst := some 8, op := Op.move (Operand.tmp 0), type := 32, pos := "theorems.go:69", after := #[{ on := 2, ground := Ground.guard }], guard := some (2, false) }) rfl (by kernel_rfl) (by kernel_rfl) (by kernel_rfl) (by rfl) hS (fun _ _ _ h => h) ?_ ?_; rotate_left; focus (intro w; go_simp; try with_reducible rfl)))
    try simp only [Act.put, List.setIfInBounds_toArray, List.set_cons_zero, List.set_cons_succ]
    (first | (refine wpH_skip 4 (oi := { dst := some 9, op := Op.nilCheck (Operand.tmp 8), type := 0, pos := "theorems.go:69", after := #[{ on := 3, ground := Ground.data }, { on := 2, ground := Ground.guard }], guard := some (2, false) }) rfl (by kernel_rfl) (by kernel_rfl) (by kernel_rfl) (by rfl) hS (fun _ _ _ h => h) ?_) | (refine wpH_pure 4 ?_ (oi := { dst := some 9, op := Op.nilCheck (Operand.tmp 8), type := 0, pos := "theorems.go:69", after := #[{ on := 3, ground := Ground.data }, { on := 2, ground := Ground.guard }], guard := some (2, false) }) rfl (by kernel_rfl) (by kernel_rfl) (by kernel_rfl) (by rfl) hS (fun _ _ _ h => h) ?_ ?_; rotate_left; focus (intro w; go_simp; try with_reducible rfl)))
    try simp only [Act.put, List.setIfInBounds_toArray, List.set_cons_zero, List.set_cons_succ]
    (first | (refine wpH_skip 5 (oi := { dst := some 10, op := Op.fieldAddr 37 (Operand.tmp 9) 0, type := 0, pos := "theorems.go:69", after := #[{ on := 4, ground := Ground.data }, { on := 2, ground := Ground.guard }], guard := some (2, false) }) rfl (by kernel_rfl) (by kernel_rfl) (by kernel_rfl) (by rfl) hS (fun _ _ _ h => h) ?_) | (refine wpH_pure 5 ?_ (oi := { dst := some 10, op := Op.fieldAddr 37 (Operand.tmp 9) 0, type := 0, pos := "theorems.go:69", after := #[{ on := 4, ground := Ground.data }, { on := 2, ground := Ground.guard }], guard := some (2, false) }) rfl (by kernel_rfl) (by kernel_rfl) (by kernel_rfl) (by rfl) hS (fun _ _ _ h => h) ?_ ?_; rotate_left; focus (intro w; go_simp; try with_reducible rfl)))
    try simp only [Act.put, List.setIfInBounds_toArray, List.set_cons_zero, List.set_cons_succ]
    (first | (refine wpH_skip 6 (oi := { dst := some 11, op := Op.load 22 (Operand.tmp 10), type := 22, pos := "theorems.go:69", after := #[{ on := 5, ground := Ground.data }, { on := 2, ground := Ground.guard }], guard := some (2, false) }) rfl (by kernel_rfl) (by kernel_rfl) (by kernel_rfl) (by rfl) hS (fun _ _ _ h => h) ?_) | (refine wpH_pure 6 ?_ (oi := { dst := some 11, op := Op.load 22 (Operand.tmp 10), type := 22, pos := "theorems.go:69", after := #[{ on := 5, ground := Ground.data }, { on := 2, ground := Ground.guard }], guard := some (2, false) }) rfl (by kernel_rfl) (by kernel_rfl) (by kernel_rfl) (by rfl) hS (fun _ _ _ h => h) ?_ ?_; rotate_left; focus (intro w; go_simp; try with_reducible rfl)))
    try simp only [Act.put, List.setIfInBounds_toArray, List.set_cons_zero, List.set_cons_succ]
    (first | (refine wpH_skip 7 (oi := { dst := some 12, op := Op.move (Operand.tmp 0), type := 32, pos := "theorems.go:69", after := #[{ on := 2, ground := Ground.guard }], guard := some (2, false) }) rfl (by kernel_rfl) (by kernel_rfl) (by kernel_rfl) (by rfl) hS (fun _ _ _ h => h) ?_) | (refine wpH_pure 7 ?_ (oi := { dst := some 12, op := Op.move (Operand.tmp 0), type := 32, pos := "theorems.go:69", after := #[{ on := 2, ground := Ground.guard }], guard := some (2, false) }) rfl (by kernel_rfl) (by kernel_rfl) (by kernel_rfl) (by rfl) hS (fun _ _ _ h => h) ?_ ?_; rotate_left; focus (intro w; go_simp; try with_reducible rfl)))
    try simp only [Act.put, List.setIfInBounds_toArray, List.set_cons_zero, List.set_cons_succ]
    (first | (refine wpH_skip 8 (oi := { dst := some 13, op := Op.nilCheck (Operand.tmp 12), type := 0, pos := "theorems.go:69", after := #[{ on := 7, ground := Ground.data }, { on := 2, ground := Ground.guard }], guard := some (2, false) }) rfl (by kernel_rfl) (by kernel_rfl) (by kernel_rfl) (by rfl) hS (fun _ _ _ h => h) ?_) | (refine wpH_pure 8 ?_ (oi := { dst := some 13, op := Op.nilCheck (Operand.tmp 12), type := 0, pos := "theorems.go:69", after := #[{ on := 7, ground := Ground.data }, { on := 2, ground := Ground.guard }], guard := some (2, false) }) rfl (by kernel_rfl) (by kernel_rfl) (by kernel_rfl) (by rfl) hS (fun _ _ _ h => h) ?_ ?_; rotate_left; focus (intro w; go_simp; try with_reducible rfl)))
    try simp only [Act.put, List.setIfInBounds_toArray, List.set_cons_zero, List.set_cons_succ]
    (first | (refine wpH_skip 9 (oi := { dst := some 14, op := Op.fieldAddr 37 (Operand.tmp 13) 3, type := 0, pos := "theorems.go:69", after := #[{ on := 8, ground := Ground.data }, { on := 2, ground := Ground.guard }], guard := some (2, false) }) rfl (by kernel_rfl) (by kernel_rfl) (by kernel_rfl) (by rfl) hS (fun _ _ _ h => h) ?_) | (refine wpH_pure 9 ?_ (oi := { dst := some 14, op := Op.fieldAddr 37 (Operand.tmp 13) 3, type := 0, pos := "theorems.go:69", after := #[{ on := 8, ground := Ground.data }, { on := 2, ground := Ground.guard }], guard := some (2, false) }) rfl (by kernel_rfl) (by kernel_rfl) (by kernel_rfl) (by rfl) hS (fun _ _ _ h => h) ?_ ?_; rotate_left; focus (intro w; go_simp; try with_reducible rfl)))
    try simp only [Act.put, List.setIfInBounds_toArray, List.set_cons_zero, List.set_cons_succ]
    (first | (refine wpH_skip 10 (oi := { dst := some 15, op := Op.load 34 (Operand.tmp 14), type := 34, pos := "theorems.go:69", after := #[{ on := 9, ground := Ground.data }, { on := 2, ground := Ground.guard }], guard := some (2, false) }) rfl (by kernel_rfl) (by kernel_rfl) (by kernel_rfl) (by rfl) hS (fun _ _ _ h => h) ?_) | (refine wpH_pure 10 ?_ (oi := { dst := some 15, op := Op.load 34 (Operand.tmp 14), type := 34, pos := "theorems.go:69", after := #[{ on := 9, ground := Ground.data }, { on := 2, ground := Ground.guard }], guard := some (2, false) }) rfl (by kernel_rfl) (by kernel_rfl) (by kernel_rfl) (by rfl) hS (fun _ _ _ h => h) ?_ ?_; rotate_left; focus (intro w; go_simp; try with_reducible rfl)))
    try simp only [Act.put, List.setIfInBounds_toArray, List.set_cons_zero, List.set_cons_succ]
    (first | (refine wpH_skip 11 (oi := { dst := some 16, op := Op.move (Operand.tmp 1), type := 3, pos := "theorems.go:69", after := #[{ on := 2, ground := Ground.guard }], guard := some (2, false) }) rfl (by kernel_rfl) (by kernel_rfl) (by kernel_rfl) (by rfl) hS (fun _ _ _ h => h) ?_) | (refine wpH_pure 11 ?_ (oi := { dst := some 16, op := Op.move (Operand.tmp 1), type := 3, pos := "theorems.go:69", after := #[{ on := 2, ground := Ground.guard }], guard := some (2, false) }) rfl (by kernel_rfl) (by kernel_rfl) (by kernel_rfl) (by rfl) hS (fun _ _ _ h => h) ?_ ?_; rotate_left; focus (intro w; go_simp; try with_reducible rfl)))
    try simp only [Act.put, List.setIfInBounds_toArray, List.set_cons_zero, List.set_cons_succ]
    (first | (refine wpH_skip 12 (oi := { dst := some 17, op := Op.indexAddr 34 (Operand.tmp 15) (Operand.tmp 16), type := 0, pos := "theorems.go:69", after := #[{ on := 10, ground := Ground.data }, { on := 11, ground := Ground.data }, { on := 2, ground := Ground.guard }], guard := some (2, false) }) rfl (by kernel_rfl) (by kernel_rfl) (by kernel_rfl) (by rfl) hS (fun _ _ _ h => h) ?_) | (refine wpH_pure 12 ?_ (oi := { dst := some 17, op := Op.indexAddr 34 (Operand.tmp 15) (Operand.tmp 16), type := 0, pos := "theorems.go:69", after := #[{ on := 10, ground := Ground.data }, { on := 11, ground := Ground.data }, { on := 2, ground := Ground.guard }], guard := some (2, false) }) rfl (by kernel_rfl) (by kernel_rfl) (by kernel_rfl) (by rfl) hS (fun _ _ _ h => h) ?_ ?_; rotate_left; focus (intro w; go_simp; try with_reducible rfl)))
    try simp only [Act.put, List.setIfInBounds_toArray, List.set_cons_zero, List.set_cons_succ]
    (first | (refine wpH_skip 13 (oi := { dst := some 18, op := Op.load 23 (Operand.tmp 17), type := 23, pos := "theorems.go:69", after := #[{ on := 12, ground := Ground.data }, { on := 2, ground := Ground.guard }], guard := some (2, false) }) rfl (by kernel_rfl) (by kernel_rfl) (by kernel_rfl) (by rfl) hS (fun _ _ _ h => h) ?_) | (refine wpH_pure 13 ?_ (oi := { dst := some 18, op := Op.load 23 (Operand.tmp 17), type := 23, pos := "theorems.go:69", after := #[{ on := 12, ground := Ground.data }, { on := 2, ground := Ground.guard }], guard := some (2, false) }) rfl (by kernel_rfl) (by kernel_rfl) (by kernel_rfl) (by rfl) hS (fun _ _ _ h => h) ?_ ?_; rotate_left; focus (intro w; go_simp; try with_reducible rfl)))
    try simp only [Act.put, List.setIfInBounds_toArray, List.set_cons_zero, List.set_cons_succ]
    refine wpH_skip 14 (oi := { dst := some 19, op := Op.call { callee := Callee.value (Operand.func 6), args := #[Operand.tmp 11, Operand.tmp 18], argTypes := #[22, 23] }, type := 3, pos := "theorems.go:69", after := #[{ on := 6, ground := Ground.data }, { on := 13, ground := Ground.data }, { on := 2, ground := Ground.chain }, { on := 2, ground := Ground.guard }], guard := some (2, false) }) rfl (by kernel_rfl) (by kernel_rfl) (by kernel_rfl) (by rfl) hS (fun _ _ _ h => h) ?_
    try simp only [Act.put, List.setIfInBounds_toArray, List.set_cons_zero, List.set_cons_succ]
    (first | (refine wpH_skip 15 (oi := { dst := some 20, op := Op.move (Operand.tmp 0), type := 32, pos := "theorems.go:69", after := #[{ on := 2, ground := Ground.guard }], guard := some (2, false) }) rfl (by kernel_rfl) (by kernel_rfl) (by kernel_rfl) (by rfl) hS (fun _ _ _ h => h) ?_) | (refine wpH_pure 15 ?_ (oi := { dst := some 20, op := Op.move (Operand.tmp 0), type := 32, pos := "theorems.go:69", after := #[{ on := 2, ground := Ground.guard }], guard := some (2, false) }) rfl (by kernel_rfl) (by kernel_rfl) (by kernel_rfl) (by rfl) hS (fun _ _ _ h => h) ?_ ?_; rotate_left; focus (intro w; go_simp; try with_reducible rfl)))
    try simp only [Act.put, List.setIfInBounds_toArray, List.set_cons_zero, List.set_cons_succ]
    (first | (refine wpH_skip 16 (oi := { dst := some 21, op := Op.nilCheck (Operand.tmp 20), type := 0, pos := "theorems.go:69", after := #[{ on := 15, ground := Ground.data }, { on := 2, ground := Ground.guard }], guard := some (2, false) }) rfl (by kernel_rfl) (by kernel_rfl) (by kernel_rfl) (by rfl) hS (fun _ _ _ h => h) ?_) | (refine wpH_pure 16 ?_ (oi := { dst := some 21, op := Op.nilCheck (Operand.tmp 20), type := 0, pos := "theorems.go:69", after := #[{ on := 15, ground := Ground.data }, { on := 2, ground := Ground.guard }], guard := some (2, false) }) rfl (by kernel_rfl) (by kernel_rfl) (by kernel_rfl) (by rfl) hS (fun _ _ _ h => h) ?_ ?_; rotate_left; focus (intro w; go_simp; try with_reducible rfl)))
    try simp only [Act.put, List.setIfInBounds_toArray, List.set_cons_zero, List.set_cons_succ]
    (first | (refine wpH_skip 17 (oi := { dst := some 22, op := Op.fieldAddr 37 (Operand.tmp 21) 0, type := 0, pos := "theorems.go:69", after := #[{ on := 16, ground := Ground.data }, { on := 2, ground := Ground.guard }], guard := some (2, false) }) rfl (by kernel_rfl) (by kernel_rfl) (by kernel_rfl) (by rfl) hS (fun _ _ _ h => h) ?_) | (refine wpH_pure 17 ?_ (oi := { dst := some 22, op := Op.fieldAddr 37 (Operand.tmp 21) 0, type := 0, pos := "theorems.go:69", after := #[{ on := 16, ground := Ground.data }, { on := 2, ground := Ground.guard }], guard := some (2, false) }) rfl (by kernel_rfl) (by kernel_rfl) (by kernel_rfl) (by rfl) hS (fun _ _ _ h => h) ?_ ?_; rotate_left; focus (intro w; go_simp; try with_reducible rfl)))
    try simp only [Act.put, List.setIfInBounds_toArray, List.set_cons_zero, List.set_cons_succ]
    (first | (refine wpH_skip 18 (oi := { dst := some 23, op := Op.load 22 (Operand.tmp 22), type := 22, pos := "theorems.go:69", after := #[{ on := 17, ground := Ground.data }, { on := 2, ground := Ground.guard }], guard := some (2, false) }) rfl (by kernel_rfl) (by kernel_rfl) (by kernel_rfl) (by rfl) hS (fun _ _ _ h => h) ?_) | (refine wpH_pure 18 ?_ (oi := { dst := some 23, op := Op.load 22 (Operand.tmp 22), type := 22, pos := "theorems.go:69", after := #[{ on := 17, ground := Ground.data }, { on := 2, ground := Ground.guard }], guard := some (2, false) }) rfl (by kernel_rfl) (by kernel_rfl) (by kernel_rfl) (by rfl) hS (fun _ _ _ h => h) ?_ ?_; rotate_left; focus (intro w; go_simp; try with_reducible rfl)))
    try simp only [Act.put, List.setIfInBounds_toArray, List.set_cons_zero, List.set_cons_succ]
    refine wpH_skip 19 (oi := { dst := some 24, op := Op.call { callee := Callee.value (Operand.func 19), args := #[Operand.tmp 23], argTypes := #[22] }, type := 3, pos := "theorems.go:69", after := #[{ on := 18, ground := Ground.data }, { on := 14, ground := Ground.chain }, { on := 2, ground := Ground.guard }], guard := some (2, false) }) rfl (by kernel_rfl) (by kernel_rfl) (by kernel_rfl) (by rfl) hS (fun _ _ _ h => h) ?_
    try simp only [Act.put, List.setIfInBounds_toArray, List.set_cons_zero, List.set_cons_succ]
    (first | (refine wpH_skip 20 (oi := { dst := some 25, op := Op.binOp BinOp.geq 3 (Operand.tmp 19) (Operand.tmp 24) 3, type := 4, pos := "theorems.go:69", after := #[{ on := 14, ground := Ground.data }, { on := 19, ground := Ground.data }, { on := 2, ground := Ground.guard }], guard := some (2, false) }) rfl (by kernel_rfl) (by kernel_rfl) (by kernel_rfl) (by rfl) hS (fun _ _ _ h => h) ?_) | (refine wpH_pure 20 ?_ (oi := { dst := some 25, op := Op.binOp BinOp.geq 3 (Operand.tmp 19) (Operand.tmp 24) 3, type := 4, pos := "theorems.go:69", after := #[{ on := 14, ground := Ground.data }, { on := 19, ground := Ground.data }, { on := 2, ground := Ground.guard }], guard := some (2, false) }) rfl (by kernel_rfl) (by kernel_rfl) (by kernel_rfl) (by rfl) hS (fun _ _ _ h => h) ?_ ?_; rotate_left; focus (intro w; go_simp; try with_reducible rfl)))
    try simp only [Act.put, List.setIfInBounds_toArray, List.set_cons_zero, List.set_cons_succ]
    (refine wpH_pure 21 ?_ (oi := { dst := some 26, op := Op.pick (Operand.tmp 7) (Operand.const (Value.bool true)) (Operand.tmp 25), type := 4, pos := "theorems.go:69", after := #[{ on := 2, ground := Ground.data }, { on := 20, ground := Ground.data }], guard := none }) rfl (by kernel_rfl) (by kernel_rfl) (by kernel_rfl) (by rfl) hS (fun _ _ _ h => h) ?_ ?_; rotate_left; focus (intro w; go_simp; try with_reducible rfl))
    try simp only [Act.put, List.setIfInBounds_toArray, List.set_cons_zero, List.set_cons_succ]
    (refine wpH_pure 22 ?_ (oi := { dst := some 4, op := Op.assign (Operand.tmp 26), type := 4, pos := "theorems.go:69", after := #[{ on := 21, ground := Ground.data }, { on := 19, ground := Ground.chain }, { on := 0, ground := Ground.phase }, { on := 1, ground := Ground.phase }, { on := 2, ground := Ground.phase }, { on := 3, ground := Ground.phase }, { on := 4, ground := Ground.phase }, { on := 5, ground := Ground.phase }, { on := 6, ground := Ground.phase }, { on := 7, ground := Ground.phase }, { on := 8, ground := Ground.phase }, { on := 9, ground := Ground.phase }, { on := 10, ground := Ground.phase }, { on := 11, ground := Ground.phase }, { on := 12, ground := Ground.phase }, { on := 13, ground := Ground.phase }, { on := 14, ground := Ground.phase }, { on := 15, ground := Ground.phase }, { on := 16, ground := Ground.phase }, { on := 17, ground := Ground.phase }, { on := 18, ground := Ground.phase }, { on := 19, ground := Ground.phase }, { on := 20, ground := Ground.phase }, { on := 21, ground := Ground.phase }], guard := none }) rfl (by kernel_rfl) (by kernel_rfl) (by kernel_rfl) (by rfl) hS (fun _ _ _ h => h) ?_ ?_; rotate_left; focus (intro w; go_simp; try with_reducible rfl))
    try simp only [Act.put, List.setIfInBounds_toArray, List.set_cons_zero, List.set_cons_succ]
    refine wpAnyH_done (by kernel_rfl) ?_ _
    go_wp2_with fail
    all_goals (go_ret; exact ⟨rfl, hS⟩)
  · have d1 : ((b : Int) == 0) = false := by simp; omega
    have d2 : decide (b = 0) = false := by simp [h0]
    obtain ⟨g, cap, rfl, hg, q0, _⟩ := hL.vot b hb
    have hsr := (hL.each b hb).ss
    have hof := mof_any sv (ts.getD b nilS) l (T.getD b []) hn hnl
    have hqu := mquorum_any sv l
    have hbt : b < ts.length := by rw [hL.tl]; exact hb
    have hi : 0 ≤ (b : Int) ∧ (b : Int) < (ts.length : Int) := by omega
    obtain ⟨ma, mc, rfl⟩ := hM.form
    obtain ⟨ua, uc, hu⟩ := hsr.form
    generalize hcr : certA l T b = r
    unfold certA at hcr
    rw [d2, Bool.false_or] at hcr
    generalize ofM l (T.getD b []) = x at *
    generalize quoM l = y at *
    have HCR := Lib.hid hcr
    have HB := Lib.hid hL.blk
    have HSR := Lib.hid hsr
    clear hcr hL hM hsr
    go_enter Try.func11, Try.ntmps11
    go_wp2_with fail
    refine wpH_start (by kernel_rfl) (fun hS => ?_)
    (refine wpH_pure 0 ?_ (oi := { dst := some 5, op := Op.move (Operand.tmp 1), type := 3, pos := "theorems.go:69", after := #[], guard := none }) rfl (by kernel_rfl) (by kernel_rfl) (by kernel_rfl) (by rfl) hS (fun _ _ _ h => h) ?_ ?_; rotate_left; focus (intro w; go_simp; try with_reducible rfl))
    try simp only [Act.put, List.setIfInBounds_toArray, List.set_cons_zero, List.set_cons_succ]
    (refine wpH_pure 1 ?_ (oi := { dst := some 6, op := Op.binOp BinOp.eql 3 (Operand.tmp 5) (Operand.const (Value.int IntKind.i64 0)) 3, type := 4, pos := "theorems.go:69", after := #[{ on := 0, ground := Ground.data }], guard := none }) rfl (by kernel_rfl) (by kernel_rfl) (by kernel_rfl) (by rfl) hS (fun _ _ _ h => h) ?_ ?_; rotate_left; focus (intro w; go_simp; try with_reducible rfl))
    try simp only [Act.put, List.setIfInBounds_toArray, List.set_cons_zero, List.set_cons_succ]
    (refine wpH_pure 2 ?_ (oi := { dst := some 7, op := Op.move (Operand.tmp 6), type := 4, pos := "theorems.go:69", after := #[{ on := 1, ground := Ground.data }], guard := none }) rfl (by kernel_rfl) (by kernel_rfl) (by kernel_rfl) (by rfl) hS (fun _ _ _ h => h) ?_ ?_; rotate_left; focus (intro w; go_simp; try with_reducible rfl))
    try simp only [Act.put, List.setIfInBounds_toArray, List.set_cons_zero, List.set_cons_succ]
    (first | (refine wpH_skip 3 (oi := { dst := some 8, op := Op.move (Operand.tmp 0), type := 32, pos := "theorems.go:69", after := #[{ on := 2, ground := Ground.guard }], guard := some (2, false) }) rfl (by kernel_rfl) (by kernel_rfl) (by kernel_rfl) (by rfl) hS (fun _ _ _ h => h) ?_) | (refine wpH_pure 3 ?_ (oi := { dst := some 8, op := Op.move (Operand.tmp 0), type := 32, pos := "theorems.go:69", after := #[{ on := 2, ground := Ground.guard }], guard := some (2, false) }) rfl (by kernel_rfl) (by kernel_rfl) (by kernel_rfl) (by rfl) hS (fun _ _ _ h => h) ?_ ?_; rotate_left; focus (intro w; go_simp; try with_reducible rfl)))
    try simp only [Act.put, List.setIfInBounds_toArray, List.set_cons_zero, List.set_cons_succ]
    (first | (refine wpH_skip 4 (oi := { dst := some 9, op := Op.nilCheck (Operand.tmp 8), type := 0, pos := "theorems.go:69", after := #[{ on := 3, ground := Ground.data }, { on := 2, ground := Ground.guard }], guard := some (2, false) }) rfl (by kernel_rfl) (by kernel_rfl) (by kernel_rfl) (by rfl) hS (fun _ _ _ h => h) ?_) | (refine wpH_pure 4 ?_ (oi := { dst := some 9, op := Op.nilCheck (Operand.tmp 8), type := 0, pos := "theorems.go:69", after := #[{ on := 3, ground := Ground.data }, { on := 2, ground := Ground.guard }], guard := some (2, false) }) rfl (by kernel_rfl) (by kernel_rfl) (by kernel_rfl) (by rfl) hS (fun _ _ _ h => h) ?_ ?_; rotate_left; focus (intro w; go_simp; try with_reducible rfl)))
    try simp only [Act.put, List.setIfInBounds_toArray, List.set_cons_zero, List.set_cons_succ]
    (first | (refine wpH_skip 5 (oi := { dst := some 10, op := Op.fieldAddr 37 (Operand.tmp 9) 0, type := 0, pos := "theorems.go:69", after := #[{ on := 4, ground := Ground.data }, { on := 2, ground := Ground.guard }], guard := some (2, false) }) rfl (by kernel_rfl) (by kernel_rfl) (by kernel_rfl) (by rfl) hS (fun _ _ _ h => h) ?_) | (refine wpH_pure 5 ?_ (oi := { dst := some 10, op := Op.fieldAddr 37 (Operand.tmp 9) 0, type := 0, pos := "theorems.go:69", after := #[{ on := 4, ground := Ground.data }, { on := 2, ground := Ground.guard }], guard := some (2, false) }) rfl (by kernel_rfl) (by kernel_rfl) (by kernel_rfl) (by rfl) hS (fun _ _ _ h => h) ?_ ?_; rotate_left; focus (intro w; go_simp; try with_reducible rfl)))
    try simp only [Act.put, List.setIfInBounds_toArray, List.set_cons_zero, List.set_cons_succ]
    refine wpH_load 6 (.slice ma l.length mc) (oi := { dst := some 11, op := Op.load 22 (Operand.tmp 10), type := 22, pos := "theorems.go:69", after := #[{ on := 5, ground := Ground.data }, { on := 2, ground := Ground.guard }], guard := some (2, false) }) rfl (by kernel_rfl) (by kernel_rfl) (by kernel_rfl) (by rfl) hS (fun _ _ _ h => h) (fun w hb2 => (by have c := (HB.out.keep hb2).cell 0; go_simp; try rfl)) ?_
    try simp only [Act.put, List.setIfInBounds_toArray, List.set_cons_zero, List.set_cons_succ]
    (first | (refine wpH_skip 7 (oi := { dst := some 12, op := Op.move (Operand.tmp 0), type := 32, pos := "theorems.go:69", after := #[{ on := 2, ground := Ground.guard }], guard := some (2, false) }) rfl (by kernel_rfl) (by kernel_rfl) (by kernel_rfl) (by rfl) hS (fun _ _ _ h => h) ?_) | (refine wpH_pure 7 ?_ (oi := { dst := some 12, op := Op.move (Operand.tmp 0), type := 32, pos := "theorems.go:69", after := #[{ on := 2, ground := Ground.guard }], guard := some (2, false) }) rfl (by kernel_rfl) (by kernel_rfl) (by kernel_rfl) (by rfl) hS (fun _ _ _ h => h) ?_ ?_; rotate_left; focus (intro w; go_simp; try with_reducible rfl)))
    try simp only [Act.put, List.setIfInBounds_toArray, List.set_cons_zero, List.set_cons_succ]
    (first | (refine wpH_skip 8 (oi := { dst := some 13, op := Op.nilCheck (Operand.tmp 12), type := 0, pos := "theorems.go:69", after := #[{ on := 7, ground := Ground.data }, { on := 2, ground := Ground.guard }], guard := some (2, false) }) rfl (by kernel_rfl) (by kernel_rfl) (by kernel_rfl) (by rfl) hS (fun _ _ _ h => h) ?_) | (refine wpH_pure 8 ?_ (oi := { dst := some 13, op := Op.nilCheck (Operand.tmp 12), type := 0, pos := "theorems.go:69", after := #[{ on := 7, ground := Ground.data }, { on := 2, ground := Ground.guard }], guard := some (2, false) }) rfl (by kernel_rfl) (by kernel_rfl) (by kernel_rfl) (by rfl) hS (fun _ _ _ h => h) ?_ ?_; rotate_left; focus (intro w; go_simp; try with_reducible rfl)))
    try simp only [Act.put, List.setIfInBounds_toArray, List.set_cons_zero, List.set_cons_succ]
    (first | (refine wpH_skip 9 (oi := { dst := some 14, op := Op.fieldAddr 37 (Operand.tmp 13) 3, type := 0, pos := "theorems.go:69", after := #[{ on := 8, ground := Ground.data }, { on := 2, ground := Ground.guard }], guard := some (2, false) }) rfl (by kernel_rfl) (by kernel_rfl) (by kernel_rfl) (by rfl) hS (fun _ _ _ h => h) ?_) | (refine wpH_pure 9 ?_ (oi := { dst := some 14, op := Op.fieldAddr 37 (Operand.tmp 13) 3, type := 0, pos := "theorems.go:69", after := #[{ on := 8, ground := Ground.data }, { on := 2, ground := Ground.guard }], guard := some (2, false) }) rfl (by kernel_rfl) (by kernel_rfl) (by kernel_rfl) (by rfl) hS (fun _ _ _ h => h) ?_ ?_; rotate_left; focus (intro w; go_simp; try with_reducible rfl)))
    try simp only [Act.put, List.setIfInBounds_toArray, List.set_cons_zero, List.set_cons_succ]
    refine wpH_load 10 (.slice (some ⟨g, 0, none⟩) ts.length cap) (oi := { dst := some 15, op := Op.load 34 (Operand.tmp 14), type := 34, pos := "theorems.go:69", after := #[{ on := 9, ground := Ground.data }, { on := 2, ground := Ground.guard }], guard := some (2, false) }) rfl (by kernel_rfl) (by kernel_rfl) (by kernel_rfl) (by rfl) hS (fun _ _ _ h => h) (fun w hb2 => (by have c := (HB.out.keep hb2).cell 3; go_simp; try rfl)) ?_
    try simp only [Act.put, List.setIfInBounds_toArray, List.set_cons_zero, List.set_cons_succ]
    (first | (refine wpH_skip 11 (oi := { dst := some 16, op := Op.move (Operand.tmp 1), type := 3, pos := "theorems.go:69", after := #[{ on := 2, ground := Ground.guard }], guard := some (2, false) }) rfl (by kernel_rfl) (by kernel_rfl) (by kernel_rfl) (by rfl) hS (fun _ _ _ h => h) ?_) | (refine wpH_pure 11 ?_ (oi := { dst := some 16, op := Op.move (Operand.tmp 1), type := 3, pos := "theorems.go:69", after := #[{ on := 2, ground := Ground.guard }], guard := some (2, false) }) rfl (by kernel_rfl) (by kernel_rfl) (by kernel_rfl) (by rfl) hS (fun _ _ _ h => h) ?_ ?_; rotate_left; focus (intro w; go_simp; try with_reducible rfl)))
    try simp only [Act.put, List.setIfInBounds_toArray, List.set_cons_zero, List.set_cons_succ]
    (first | (refine wpH_skip 12 (oi := { dst := some 17, op := Op.indexAddr 34 (Operand.tmp 15) (Operand.tmp 16), type := 0, pos := "theorems.go:69", after := #[{ on := 10, ground := Ground.data }, { on := 11, ground := Ground.data }, { on := 2, ground := Ground.guard }], guard := some (2, false) }) rfl (by kernel_rfl) (by kernel_rfl) (by kernel_rfl) (by rfl) hS (fun _ _ _ h => h) ?_) | (refine wpH_pure 12 ?_ (oi := { dst := some 17, op := Op.indexAddr 34 (Operand.tmp 15) (Operand.tmp 16), type := 0, pos := "theorems.go:69", after := #[{ on := 10, ground := Ground.data }, { on := 11, ground := Ground.data }, { on := 2, ground := Ground.guard }], guard := some (2, false) }) rfl (by kernel_rfl) (by kernel_rfl) (by kernel_rfl) (by rfl) hS (fun _ _ _ h => h) ?_ ?_; rotate_left; focus (intro w; go_simp; try with_reducible rfl)))
    try simp only [Act.put, List.setIfInBounds_toArray, List.set_cons_zero, List.set_cons_succ]
    refine wpH_load 13 (ts.getD b nilS) (oi := { dst := some 18, op := Op.load 23 (Operand.tmp 17), type := 23, pos := "theorems.go:69", after := #[{ on := 12, ground := Ground.data }, { on := 2, ground := Ground.guard }], guard := some (2, false) }) rfl (by kernel_rfl) (by kernel_rfl) (by kernel_rfl) (by rfl) hS (fun _ _ _ h => h) (fun w hb2 => (by have c := (hb2.cell (p := ⟨g, b, none⟩) hg).trans q0; go_simp; try rfl)) ?_
    try simp only [Act.put, List.setIfInBounds_toArray, List.set_cons_zero, List.set_cons_succ]
    (first | (refine wpH_skip 15 (oi := { dst := some 20, op := Op.move (Operand.tmp 0), type := 32, pos := "theorems.go:69", after := #[{ on := 2, ground := Ground.guard }], guard := some (2, false) }) rfl (by kernel_rfl) (by kernel_rfl) (by kernel_rfl) (by rfl) hS (fun _ _ _ h => h) ?_) | (refine wpH_pure 15 ?_ (oi := { dst := some 20, op := Op.move (Operand.tmp 0), type := 32, pos := "theorems.go:69", after := #[{ on := 2, ground := Ground.guard }], guard := some (2, false) }) rfl (by kernel_rfl) (by kernel_rfl) (by kernel_rfl) (by rfl) hS (fun _ _ _ h => h) ?_ ?_; rotate_left; focus (intro w; go_simp; try with_reducible rfl)))
    try simp only [Act.put, List.setIfInBounds_toArray, List.set_cons_zero, List.set_cons_succ]
    (first | (refine wpH_skip 16 (oi := { dst := some 21, op := Op.nilCheck (Operand.tmp 20), type := 0, pos := "theorems.go:69", after := #[{ on := 15, ground := Ground.data }, { on := 2, ground := Ground.guard }], guard := some (2, false) }) rfl (by kernel_rfl) (by kernel_rfl) (by kernel_rfl) (by rfl) hS (fun _ _ _ h => h) ?_) | (refine wpH_pure 16 ?_ (oi := { dst := some 21, op := Op.nilCheck (Operand.tmp 20), type := 0, pos := "theorems.go:69", after := #[{ on := 15, ground := Ground.data }, { on := 2, ground := Ground.guard }], guard := some (2, false) }) rfl (by kernel_rfl) (by kernel_rfl) (by kernel_rfl) (by rfl) hS (fun _ _ _ h => h) ?_ ?_; rotate_left; focus (intro w; go_simp; try with_reducible rfl)))
    try simp only [Act.put, List.setIfInBounds_toArray, List.set_cons_zero, List.set_cons_succ]
    (first | (refine wpH_skip 17 (oi := { dst := some 22, op := Op.fieldAddr 37 (Operand.tmp 21) 0, type := 0, pos := "theorems.go:69", after := #[{ on := 16, ground := Ground.data }, { on := 2, ground := Ground.guard }], guard := some (2, false) }) rfl (by kernel_rfl) (by kernel_rfl) (by kernel_rfl) (by rfl) hS (fun _ _ _ h => h) ?_) | (refine wpH_pure 17 ?_ (oi := { dst := some 22, op := Op.fieldAddr 37 (Operand.tmp 21) 0, type := 0, pos := "theorems.go:69", after := #[{ on := 16, ground := Ground.data }, { on := 2, ground := Ground.guard }], guard := some (2, false) }) rfl (by kernel_rfl) (by kernel_rfl) (by kernel_rfl) (by rfl) hS (fun _ _ _ h => h) ?_ ?_; rotate_left; focus (intro w; go_simp; try with_reducible rfl)))
    try simp only [Act.put, List.setIfInBounds_toArray, List.set_cons_zero, List.set_cons_succ]
    refine wpH_load 18 (.slice ma l.length mc) (oi := { dst := some 23, op := Op.load 22 (Operand.tmp 22), type := 22, pos := "theorems.go:69", after := #[{ on := 17, ground := Ground.data }, { on := 2, ground := Ground.guard }], guard := some (2, false) }) rfl (by kernel_rfl) (by kernel_rfl) (by kernel_rfl) (by rfl) hS (fun _ _ _ h => h) (fun w hb2 => (by have c := (HB.out.keep hb2).cell 0; go_simp; try rfl)) ?_
    try simp only [Act.put, List.setIfInBounds_toArray, List.set_cons_zero, List.set_cons_succ]
    refine wpH_call 14 (oi := { dst := some 19, op := Op.call { callee := Callee.value (Operand.func 6), args := #[Operand.tmp 11, Operand.tmp 18], argTypes := #[22, 23] }, type := 3, pos := "theorems.go:69", after := #[{ on := 6, ground := Ground.data }, { on := 13, ground := Ground.data }, { on := 2, ground := Ground.chain }, { on := 2, ground := Ground.guard }], guard := some (2, false) }) rfl (by kernel_rfl) (by rfl) (hof _ (HM.out.keep hS) (HSR.out.keep hS)) ?_ ?_
    · (go_simp; try rfl)
    rintro e w' ⟨rfl, hbx⟩
    refine ⟨_, rfl, hS.trans (hbx.mono hS.size), ?_⟩
    replace hS := hS.trans (hbx.mono hS.size)
    try simp only [Act.put, List.setIfInBounds_toArray, List.set_cons_zero, List.set_cons_succ]
    refine wpH_call 19 (oi := { dst := some 24, op := Op.call { callee := Callee.value (Operand.func 19), args := #[Operand.tmp 23], argTypes := #[22] }, type := 3, pos := "theorems.go:69", after := #[{ on := 18, ground := Ground.data }, { on := 14, ground := Ground.chain }, { on := 2, ground := Ground.guard }], guard := some (2, false) }) rfl (by kernel_rfl) (by rfl) (hqu _ (HM.out.keep hS)) ?_ ?_
    · (go_simp; try rfl)
    rintro e w' ⟨rfl, hbx⟩
    refine ⟨_, rfl, hS.trans (hbx.mono hS.size), ?_⟩
    replace hS := hS.trans (hbx.mono hS.size)
    try simp only [Act.put, List.setIfInBounds_toArray, List.set_cons_zero, List.set_cons_succ]
    (first | (refine wpH_skip 20 (oi := { dst := some 25, op := Op.binOp BinOp.geq 3 (Operand.tmp 19) (Operand.tmp 24) 3, type := 4, pos := "theorems.go:69", after := #[{ on := 14, ground := Ground.data }, { on := 19, ground := Ground.data }, { on := 2, ground := Ground.guard }], guard := some (2, false) }) rfl (by kernel_rfl) (by kernel_rfl) (by kernel_rfl) (by rfl) hS (fun _ _ _ h => h) ?_) | (refine wpH_pure 20 ?_ (oi := { dst := some 25, op := Op.binOp BinOp.geq 3 (Operand.tmp 19) (Operand.tmp 24) 3, type := 4, pos := "theorems.go:69", after := #[{ on := 14, ground := Ground.data }, { on := 19, ground := Ground.data }, { on := 2, ground := Ground.guard }], guard := some (2, false) }) rfl (by kernel_rfl) (by kernel_rfl) (by kernel_rfl) (by rfl) hS (fun _ _ _ h => h) ?_ ?_; rotate_left; focus (intro w; go_simp; try with_reducible rfl)))
    try simp only [Act.put, List.setIfInBounds_toArray, List.set_cons_zero, List.set_cons_succ]
    (refine wpH_pure 21 ?_ (oi := { dst := some 26, op := Op.pick (Operand.tmp 7) (Operand.const (Value.bool true)) (Operand.tmp 25), type := 4, pos := "theorems.go:69", after := #[{ on := 2, ground := Ground.data }, { on := 20, ground := Ground.data }], guard := none }) rfl (by kernel_rfl) (by kernel_rfl) (by kernel_rfl) (by rfl) hS (fun _ _ _ h => h) ?_ ?_; rotate_left; focus (intro w; go_simp; try with_reducible rfl))
    try simp only [Act.put, List.setIfInBounds_toArray, List.set_cons_zero, List.set_cons_succ]
    (refine wpH_pure 22 ?_ (oi := { dst := some 4, op := Op.assign (Operand.tmp 26), type := 4, pos := "theorems.go:69", after := #[{ on := 21, ground := Ground.data }, { on := 19, ground := Ground.chain }, { on := 0, ground := Ground.phase }, { on := 1, ground := Ground.phase }, { on := 2, ground := Ground.phase }, { on := 3, ground := Ground.phase }, { on := 4, ground := Ground.phase }, { on := 5, ground := Ground.phase }, { on := 6, ground := Ground.phase }, { on := 7, ground := Ground.phase }, { on := 8, ground := Ground.phase }, { on := 9, ground := Ground.phase }, { on := 10, ground := Ground.phase }, { on := 11, ground := Ground.phase }, { on := 12, ground := Ground.phase }, { on := 13, ground := Ground.phase }, { on := 14, ground := Ground.phase }, { on := 15, ground := Ground.phase }, { on := 16, ground := Ground.phase }, { on := 17, ground := Ground.phase }, { on := 18, ground := Ground.phase }, { on := 19, ground := Ground.phase }, { on := 20, ground := Ground.phase }, { on := 21, ground := Ground.phase }], guard := none }) rfl (by kernel_rfl) (by kernel_rfl) (by kernel_rfl) (by rfl) hS (fun _ _ _ h => h) ?_ ?_; rotate_left; focus (intro w; go_simp; try with_reducible rfl))
    try simp only [Act.put, List.setIfInBounds_toArray, List.set_cons_zero, List.set_cons_succ]
    refine wpAnyH_done (by kernel_rfl) ?_ _
    go_wp2_with fail
    all_goals (go_ret; exact ⟨by have q := HCR.out; subst q; simp [ge_iff_le], hS⟩)
end
end Go.Proofs.Ytbnjhfkmdejeaaa
