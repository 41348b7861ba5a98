/- Shelf4, Held, Store, StoreW, Keys, Sums. -/
import Derived.Test.YtbnjhfkmdejeaaaDoorProg
import Derived.Shelf.SlIter.Nil
import Derived.Shelf.SortM.Plain
import Derived.Shelf.SortM.SortNone
import Derived.Shelf.SlMaps.Clone
import Derived.Test.YtbnjhfkmdejeaaaDoorRows
import Derived.Test.YtbnjhfkmdejeaaaDoorMg2
import Derived.Test.YtbnjhfkmdejeaaaDoorMg11
import Derived.Test.YtbnjhfkmdejeaaaDoorMg6
import Derived.Test.YtbnjhfkmdejeaaaDoorMg13
import Derived.Test.YtbnjhfkmdejeaaaDoorMg8
import Derived.Sort.KeysCollected
import Derived.Lib.OwnKind
import Derived.Test.YtbnjhfkmdejeaaaDoorMg17
import Derived.Sort.OwnSorted
set_option linter.unnecessarySimpa false

/- The laws of the library that the sorts lean on, at this program. -/
set_option linter.unusedVariables false
namespace Go.Proofs.YtbnjhfkmdejeaaaDoor
open Go.Shelf

def keysB_ren : Go.Shelf.Ren := ⟨fun | 7 => 64 | 10 => 82 | n => n, fun | 23 => 109 | 26 => 9 | 3 => 89 | 28 => 107 | 0 => 0 | 27 => 106 | 33 => 129 | 4 => 4 | n => n, fun | n => n⟩
theorem keysB : Go.Proofs.SlLaysZ.n7 Tryd.prog keysB_ren := {
  mixed := by kernel_rfl
  f7 := ⟨Tryd.f64.name, by decide, Tryd.func64.trans (congrArg some (by kernel_rfl))⟩
  f10 := ⟨Tryd.f82.name, by decide, Tryd.func82.trans (congrArg some (by kernel_rfl))⟩
  t0 := Tryd.underlying0
  a0 := Tryd.isAgg0
  z0 := Tryd.sizeOf0
  v0 := Tryd.zeroValue0
  t4 := Tryd.underlying4
  a4 := Tryd.isAgg4
  z4 := Tryd.sizeOf4
  v4 := Tryd.zeroValue4
  t23 := Tryd.underlying109
  a23 := Tryd.isAgg109
  z23 := Tryd.sizeOf109
  v23 := Tryd.zeroValue109
  t26 := Tryd.underlying9
  a26 := Tryd.isAgg9
  z26 := Tryd.sizeOf9
  v26 := Tryd.zeroValue9
  t27 := Tryd.underlying106
  a27 := Tryd.isAgg106
  z27 := Tryd.sizeOf106
  v27 := Tryd.zeroValue106
  t28 := Tryd.underlying107
  a28 := Tryd.isAgg107
  z28 := Tryd.sizeOf107
  v28 := Tryd.zeroValue107
  t33 := Tryd.underlying129
  a33 := Tryd.isAgg129
  z33 := Tryd.sizeOf129
  v33 := Tryd.zeroValue129 }
def keysI_ren : Go.Shelf.Ren := ⟨fun | 7 => 65 | 10 => 83 | n => n, fun | 23 => 70 | 26 => 9 | 3 => 3 | 28 => 107 | 0 => 0 | 27 => 106 | 33 => 129 | 4 => 4 | n => n, fun | n => n⟩
theorem keysI : Go.Proofs.SlLaysZ.n7 Tryd.prog keysI_ren := {
  mixed := by kernel_rfl
  f7 := ⟨Tryd.f65.name, by decide, Tryd.func65.trans (congrArg some (by kernel_rfl))⟩
  f10 := ⟨Tryd.f83.name, by decide, Tryd.func83.trans (congrArg some (by kernel_rfl))⟩
  t0 := Tryd.underlying0
  a0 := Tryd.isAgg0
  z0 := Tryd.sizeOf0
  v0 := Tryd.zeroValue0
  t4 := Tryd.underlying4
  a4 := Tryd.isAgg4
  z4 := Tryd.sizeOf4
  v4 := Tryd.zeroValue4
  t23 := Tryd.underlying70
  a23 := Tryd.isAgg70
  z23 := Tryd.sizeOf70
  v23 := Tryd.zeroValue70
  t26 := Tryd.underlying9
  a26 := Tryd.isAgg9
  z26 := Tryd.sizeOf9
  v26 := Tryd.zeroValue9
  t27 := Tryd.underlying106
  a27 := Tryd.isAgg106
  z27 := Tryd.sizeOf106
  v27 := Tryd.zeroValue106
  t28 := Tryd.underlying107
  a28 := Tryd.isAgg107
  z28 := Tryd.sizeOf107
  v28 := Tryd.zeroValue107
  t33 := Tryd.underlying129
  a33 := Tryd.isAgg129
  z33 := Tryd.sizeOf129
  v33 := Tryd.zeroValue129 }
def sortedS_ren : Go.Shelf.Ren := ⟨fun | 6 => 63 | 8 => 81 | 9 => 56 | 11 => 112 | 13 => 79 | 12 => 78 | 23 => 104 | 24 => 105 | 14 => 95 | 15 => 96 | 16 => 97 | 17 => 98 | 18 => 99 | 19 => 100 | 20 => 101 | 21 => 102 | 22 => 103 | 25 => 124 | 26 => 125 | 27 => 126 | 28 => 127 | 29 => 128 | 30 => 88 | 31 => 141 | n => n, fun | 26 => 9 | 28 => 107 | 24 => 26 | 0 => 0 | 3 => 3 | 37 => 128 | 48 => 133 | 50 => 143 | 4 => 4 | 40 => 146 | 39 => 145 | 45 => 90 | 5 => 5 | 9 => 9 | 51 => 170 | 55 => 174 | 57 => 190 | 58 => 191 | 33 => 129 | n => n, fun | n => n⟩
theorem sortedS : Go.Proofs.SlLaysZ.n6 Tryd.prog sortedS_ren := {
  mixed := by kernel_rfl
  f6 := ⟨Tryd.f63.name, by decide, Tryd.func63.trans (congrArg some (by kernel_rfl))⟩
  f8 := ⟨Tryd.f81.name, by decide, Tryd.func81.trans (congrArg some (by kernel_rfl))⟩
  f11 := ⟨Tryd.f112.name, by decide, Tryd.func112.trans (congrArg some (by kernel_rfl))⟩
  t0 := Tryd.underlying0
  a0 := Tryd.isAgg0
  z0 := Tryd.sizeOf0
  v0 := Tryd.zeroValue0
  t24 := Tryd.underlying26
  a24 := Tryd.isAgg26
  z24 := Tryd.sizeOf26
  v24 := Tryd.zeroValue26
  t26 := Tryd.underlying9
  a26 := Tryd.isAgg9
  z26 := Tryd.sizeOf9
  v26 := Tryd.zeroValue9
  t28 := Tryd.underlying107
  a28 := Tryd.isAgg107
  z28 := Tryd.sizeOf107
  v28 := Tryd.zeroValue107
  i26 := by kernel_rfl }
def sortM_ren : Go.Shelf.Ren := ⟨fun | 6 => 56 | 8 => 79 | 9 => 78 | 19 => 104 | 20 => 105 | 21 => 95 | 22 => 96 | 23 => 97 | 24 => 98 | 25 => 99 | 26 => 100 | 27 => 101 | 28 => 102 | 29 => 103 | 36 => 124 | 31 => 125 | 32 => 126 | 37 => 127 | 38 => 128 | 39 => 88 | 41 => 141 | n => n, fun | 27 => 26 | 29 => 9 | 3 => 3 | 32 => 128 | 26 => 26 | 0 => 0 | 44 => 133 | 46 => 143 | 4 => 4 | 36 => 146 | 35 => 145 | 41 => 90 | 5 => 5 | 9 => 9 | 53 => 170 | 57 => 174 | 63 => 190 | 64 => 191 | n => n, fun | n => n⟩
theorem sortM : Go.Proofs.SlLaysM.n6 Tryd.prog sortM_ren := {
  mixed := by kernel_rfl
  f6 := ⟨Tryd.f56.name, by decide, Tryd.func56.trans (congrArg some (by kernel_rfl))⟩
  f8 := Tryd.func79.trans (congrArg some (by kernel_rfl))
  f9 := ⟨Tryd.f78.name, by decide, Tryd.func78.trans (congrArg some (by kernel_rfl))⟩
  f19 := Tryd.func104.trans (congrArg some (by kernel_rfl))
  f20 := Tryd.func105.trans (congrArg some (by kernel_rfl))
  f21 := ⟨Tryd.f95.name, by decide, Tryd.func95.trans (congrArg some (by kernel_rfl))⟩
  f22 := ⟨Tryd.f96.name, by decide, Tryd.func96.trans (congrArg some (by kernel_rfl))⟩
  f23 := ⟨Tryd.f97.name, by decide, Tryd.func97.trans (congrArg some (by kernel_rfl))⟩
  f24 := ⟨Tryd.f98.name, by decide, Tryd.func98.trans (congrArg some (by kernel_rfl))⟩
  f25 := ⟨Tryd.f99.name, by decide, Tryd.func99.trans (congrArg some (by kernel_rfl))⟩
  f26 := ⟨Tryd.f100.name, by decide, Tryd.func100.trans (congrArg some (by kernel_rfl))⟩
  f27 := ⟨Tryd.f101.name, by decide, Tryd.func101.trans (congrArg some (by kernel_rfl))⟩
  f28 := ⟨Tryd.f102.name, by decide, Tryd.func102.trans (congrArg some (by kernel_rfl))⟩
  f29 := ⟨Tryd.f103.name, by decide, Tryd.func103.trans (congrArg some (by kernel_rfl))⟩
  f31 := Tryd.func125.trans (congrArg some (by kernel_rfl))
  f32 := Tryd.func126.trans (congrArg some (by kernel_rfl))
  f36 := ⟨Tryd.f124.name, by decide, Tryd.func124.trans (congrArg some (by kernel_rfl))⟩
  f37 := ⟨Tryd.f127.name, by decide, Tryd.func127.trans (congrArg some (by kernel_rfl))⟩
  f38 := ⟨Tryd.f128.name, by decide, Tryd.func128.trans (congrArg some (by kernel_rfl))⟩
  f39 := ⟨Tryd.f88.name, by decide, Tryd.func88.trans (congrArg some (by kernel_rfl))⟩
  f41 := ⟨Tryd.f141.name, by decide, Tryd.func141.trans (congrArg some (by kernel_rfl))⟩
  t0 := Tryd.underlying0
  a0 := Tryd.isAgg0
  z0 := Tryd.sizeOf0
  v0 := Tryd.zeroValue0
  t3 := Tryd.underlying3
  a3 := Tryd.isAgg3
  z3 := Tryd.sizeOf3
  v3 := Tryd.zeroValue3
  t4 := Tryd.underlying4
  a4 := Tryd.isAgg4
  z4 := Tryd.sizeOf4
  v4 := Tryd.zeroValue4
  t5 := Tryd.underlying5
  a5 := Tryd.isAgg5
  z5 := Tryd.sizeOf5
  v5 := Tryd.zeroValue5
  t9 := Tryd.underlying9
  a9 := Tryd.isAgg9
  z9 := Tryd.sizeOf9
  v9 := Tryd.zeroValue9
  t26 := Tryd.underlying26
  a26 := Tryd.isAgg26
  z26 := Tryd.sizeOf26
  v26 := Tryd.zeroValue26
  t27 := Tryd.underlying26
  a27 := Tryd.isAgg26
  z27 := Tryd.sizeOf26
  v27 := Tryd.zeroValue26
  t29 := Tryd.underlying9
  a29 := Tryd.isAgg9
  z29 := Tryd.sizeOf9
  v29 := Tryd.zeroValue9
  t32 := Tryd.underlying128
  a32 := Tryd.isAgg128
  z32 := Tryd.sizeOf128
  v32 := Tryd.zeroValue128
  t35 := Tryd.underlying145
  a35 := Tryd.isAgg145
  z35 := Tryd.sizeOf145
  v35 := Tryd.zeroValue145
  t36 := Tryd.underlying146
  a36 := Tryd.isAgg146
  z36 := Tryd.sizeOf146
  v36 := Tryd.zeroValue146
  t41 := Tryd.underlying90
  a41 := Tryd.isAgg90
  z41 := Tryd.sizeOf90
  v41 := Tryd.zeroValue90
  t44 := Tryd.underlying133
  a44 := Tryd.isAgg133
  z44 := Tryd.sizeOf133
  v44 := Tryd.zeroValue133
  t46 := Tryd.underlying143
  a46 := Tryd.isAgg143
  z46 := Tryd.sizeOf143
  v46 := Tryd.zeroValue143
  t53 := Tryd.underlying170
  a53 := Tryd.isAgg170
  z53 := Tryd.sizeOf170
  v53 := Tryd.zeroValue170
  t57 := Tryd.underlying174
  a57 := Tryd.isAgg174
  z57 := Tryd.sizeOf174
  v57 := Tryd.zeroValue174
  t63 := Tryd.underlying190
  a63 := Tryd.isAgg190
  z63 := Tryd.sizeOf190
  v63 := Tryd.zeroValue190
  t64 := Tryd.underlying191
  a64 := Tryd.isAgg191
  z64 := Tryd.sizeOf191
  v64 := Tryd.zeroValue191 }
def cloneB_ren : Go.Shelf.Ren := ⟨fun | 5 => 67 | 7 => 86 | n => n, fun | 23 => 109 | 25 => 9 | 3 => 89 | 4 => 4 | 20 => 20 | n => n, fun | n => n⟩
theorem cloneB : Go.Proofs.SlLaysW.n5 Tryd.prog cloneB_ren := {
  mixed := by kernel_rfl
  f5 := ⟨Tryd.f67.name, by decide, Tryd.func67.trans (congrArg some (by kernel_rfl))⟩
  f7 := Tryd.func86.trans (congrArg some (by kernel_rfl))
  t4 := Tryd.underlying4
  a4 := Tryd.isAgg4
  z4 := Tryd.sizeOf4
  v4 := Tryd.zeroValue4
  t20 := Tryd.underlying20
  a20 := Tryd.isAgg20
  z20 := Tryd.sizeOf20
  v20 := Tryd.zeroValue20
  t23 := Tryd.underlying109
  a23 := Tryd.isAgg109
  z23 := Tryd.sizeOf109
  v23 := Tryd.zeroValue109 }

end Go.Proofs.YtbnjhfkmdejeaaaDoor

/- General tools for walks through drawn regions. -/
set_option linter.unusedSimpArgs false
set_option linter.unusedVariables false
namespace Go.Proofs.YtbnjhfkmdejeaaaDoor
open Go.RowKit

theorem wpO_op {P : Program} {ops : Array Oper} {Q : Exit → Act → World → Prop} {a : Act} {w : World} {K : Act → World → Prop} {i : Nat} {oi : Oper} (hi : ops[i]? = some oi) (hw : Region.wanted oi (yielded ops a.tmps) = true) (h : oi.wp P a w K Q) : wpOp P ops Q i K a w := by
  unfold wpOp
  simp only [hi, hw, if_true]
  exact .inl h
theorem wpO_call {P : Program} {ops : Array Oper} {Q : Exit → Act → World → Prop} {S : World → Prop} {a : Act} {w : World} {K : Act → World → Prop} {i : Nat} {oi : Oper} (hi : ops[i]? = some oi) (hw : Region.wanted oi (yielded ops a.tmps) = true) {f : FuncId} {args : Array Value} {R : Ending → World → Prop} (hc : Calls P f args w R)
    (hv : (execOp a.eval oi).run P w = .ok (.enter f args) w) (h : ∀ e w', R e w' → ∃ v, e = .returned v ∧ S w' ∧ K (a.put oi.dst v) w') : wpOp P ops Q i (fun a' w' => S w' ∧ K a' w') a w := by
  unfold wpOp
  simp only [hi, hw, if_true]
  refine .inl ?_
  unfold Oper.wp
  rw [hv, Oper.upon_enter]
  refine hc.mono fun e w' hR => ?_
  obtain ⟨v, rfl, h1, h2⟩ := h e w' hR
  exact ⟨h1, h2⟩
/-- A post of the normal exit alone. -/
def NormQ (R : Act → World → Prop) : Exit → Act → World → Prop
  | .normal, a, w => R a w
  | _, _, _ => False
theorem wp_region_ex {P : Program} {c : Code} {Q : Exit → Act → World → Prop} {a : Act} {w : World} {ι : Type} (f : ι → Act → Act) (F : ι → World → Prop) (h : c.wp P (NormQ fun a' w' => ∃ i, a' = f i a ∧ F i w') a w) (k : ∀ i w', F i w' → Q .normal (f i a) w') : c.wp P Q a w :=
  Code.wp_mono (fun e a' w' hq => by
    cases e
    case normal =>
      obtain ⟨i, ha, hF⟩ : ∃ i, a' = f i a ∧ F i w' := hq
      subst ha
      exact k i w' hF
    all_goals exact absurd hq id) h
/-- A new block of zeros, its number a name. -/
theorem wp_allocK {P : Program} {o : Oper} {a : Act} {w : World} {K : Act → World → Prop} {Q : Exit → Act → World → Prop} (t : TypeId) (ho : o.op = .alloc t) (z : Array Value) (hz : ∀ w : World, (execOp a.eval o).run P w = .ok (.value (.pointer (some ⟨w.heap.size, 0, none⟩))) (w.alloc (.cells z t)))
    (h : ∀ k w', w.heap.size ≤ k → Blk w' k z → Below w.heap.size w w' → K (a.put o.dst (.pointer (some ⟨k, 0, none⟩))) w') : o.wp P a w K Q := by
  unfold Oper.wp
  rw [hz w]
  exact h _ _ (Nat.le_refl _) (Blk.new _ _ _) (Below.allocS (Below.refl _ _) _)
/-- A new block, its number a name. -/
theorem wp_newK {P : Program} {o : Oper} {a : Act} {w : World} {K : Act → World → Prop} {Q : Exit → Act → World → Prop} (t : TypeId) (z : Array Value) (u : Nat → Value) (hz : ∀ w : World, (execOp a.eval o).run P w = .ok (.value (u w.heap.size)) (w.alloc (.cells z t)))
    (h : ∀ k w', w.heap.size ≤ k → w'.heap[k]? = some (.cells z t) → k < w'.heap.size → Below w.heap.size w w' → K (a.put o.dst (u k)) w') : o.wp P a w K Q := by
  unfold Oper.wp
  rw [hz w]
  exact h _ _ (Nat.le_refl _) (heap_alloc_new w _) (by simp) (Below.allocS (Below.refl _ _) _)
theorem Blk.of_heap {w : World} {k : Nat} {z : Array Value} {t : TypeId} (hh : w.heap[k]? = some (.cells z t)) (hk : k < w.heap.size) : Blk w k z :=
  ⟨fun o => by simp [World.cell?, hh], fun o => by simp [World.frozen?, hh], hk⟩
end Go.Proofs.YtbnjhfkmdejeaaaDoor

/- A store of texts by their sums: New, Put, Get. -/
set_option linter.unusedSimpArgs false
set_option linter.unusedVariables false
namespace Go.Proofs.YtbnjhfkmdejeaaaDoor
open Go.RowKit Go.WideMaps Go.Maps Go.Sort Pl

abbrev nilV : Value := .slice none 0 0
/-- An element of the map is held as it is. -/
def hR (v : Value) : Option (DataW Value × List MemPlace) := some (.held v, [])
theorem hR_inv {v u : Value} {ps : List MemPlace} (h : hR v = some (.held u, ps)) : v = u := by
  unfold hR at h
  injection h with h
  injection h with h _
  injection h
/-- v is a slice of a block of bytes of its own, with this text. -/
def BTx (w : World) (base : Nat) (v : Value) (t : Bs) : Prop :=
  ∃ g cap c fz, v = .slice (some ⟨g, 0, none⟩) t.length cap ∧ base ≤ g ∧ g < w.heap.size ∧ w.heap[g]? = some (Obj.cells c 5 fz) ∧ ∀ i, i < t.length → w.cell? ⟨g, i, none⟩ = some (.int .u8 ((t.getD i 0).toNat : Int))
theorem BTx.kept {w w' : World} {base : Nat} {v : Value} {t : Bs} (h : BTx w base v t) (hs : w.heap.size ≤ w'.heap.size) (hk : ∀ (g : Nat) c fz, w.heap[g]? = some (Obj.cells c 5 fz) → w'.heap[g]? = w.heap[g]?) : BTx w' base v t := by
  obtain ⟨g, cap, c, fz, h1, h2, h3, h4, h5⟩ := h
  have hg := hk g c fz h4
  exact ⟨g, cap, c, fz, h1, h2, by omega, hg.trans h4, fun i hi => (World.cell?_of_block (a := ⟨g, i, none⟩) hg).trans (h5 i hi)⟩
theorem BTx.conv {w : World} {base : Nat} {v : Value} {t : Bs} (h : BTx w base v t) : (convert 89 9 v).run Tryd.prog w = .ok (.string ⟨List.toArray (t)⟩) w := by
  obtain ⟨g, cap, c, fz, rfl, h2, h3, h4, h5⟩ := h
  exact conv_str 89 5 9 Tryd.underlying89 Tryd.underlying5 Tryd.underlying9 g 0 t.length cap t rfl (fun i hi => by simpa using h5 i hi)
theorem run_conv_btx (w : World) (s : Bs) (hs : s.length ≤ maxLen) :
    ∃ v w', (convert 9 89 (.string ⟨List.toArray (s)⟩)).run Tryd.prog w = .ok v w' ∧ BTx w' w.heap.size v s ∧ Below w.heap.size w w' := by
  have hr := Lib.run_convert_string_bytes (P := Tryd.prog) w 9 89 5 ⟨s.toArray⟩ Tryd.underlying9 Tryd.underlying89 Tryd.underlying5
  have hz := bs_size s
  rw [hz] at hr
  refine ⟨_, _, hr, ⟨w.heap.size, _, _, _, rfl, Nat.le_refl _, by rw [Lib.bytesWorld_size]; omega, Lib.bytesWorld_at_new w 5 ⟨s.toArray⟩, fun i hi => Lib.bytesWorld_cell w 5 ⟨s.toArray⟩ i (by rw [hz]; exact hi)⟩, ⟨rfl, rfl, rfl, by rw [Lib.bytesWorld_size]; omega, fun k hk => Lib.bytesWorld_at_old w _ _ k (by omega)⟩⟩
theorem wpList_convT {ops : Array Oper} {o : Oper} {rest : List Oper} {a : Act} {w : World} {Q : Exit → Act → World → Prop} (hgd : o.guard = none) (x : Operand) (ho : o.op = .convert 9 89 x) (s : Bs) (hx : a.eval x = .string ⟨List.toArray (s)⟩) (hs : s.length ≤ maxLen)
    (h : ∀ v' w', BTx w' w.heap.size v' s → Below w.heap.size w w' → wpList Tryd.prog ops Q rest (a.put o.dst v') w') : wpList Tryd.prog ops Q (o :: rest) a w := by
  refine wpList_plain hgd fun K hK => ?_
  obtain ⟨v, w', hr, h2, h3⟩ := run_conv_btx w s hs
  unfold Oper.wp execOp
  simp only [ho, hx, Sem.run_bind, Sem.run_pure, Result.andThen_ok, hr]
  exact hK _ _ (h v w' h2 h3)

abbrev Ent := Bs × Bs
def keysE (T : List Ent) : List Bs := T.map (·.1)
/-- What a map of texts holds. -/
structure StoD (w : World) (base : Nat) (D : DataW Value) (T : List Ent) : Prop where
  has : ∀ k : Bs, Maps.has D (.string k) = decide (k ∈ keysE T)
  val : ∀ e ∈ T, ∃ v, D.atKey (.string e.1) (.held nilV) = .held v ∧ BTx w base v e.2
  nodup : (keysE T).Nodup
  size : Maps.size D = T.length
/-- A store: a pointer to a struct with a map. -/
structure Sto (w : World) (base p b : Nat) (T : List Ent) : Prop where
  hp : base ≤ p
  hb : base ≤ b
  cell : w.heap[p]? = some (Obj.cells #[.map (some b)] 111)
  lt : p < w.heap.size
  own : ∃ D, w.ownsMap Tryd.prog 9 hR b T.length D ∧ StoD w base D T
/-- A block of a store's kinds. -/
def StoK (w : World) (k : Nat) : Prop := (∃ es c, w.heap[k]? = some (Obj.map es c)) ∨ (∃ c fz, w.heap[k]? = some (Obj.cells c 5 fz)) ∨ (∃ c fz, w.heap[k]? = some (Obj.cells c 111 fz))
section
variable {w w' : World} {base p b : Nat} {T : List Ent}
theorem Sto.blk (h : Sto w base p b T) : Blk w p #[.map (some b)] := Blk.of_heap h.cell h.lt
theorem Sto.blt (h : Sto w base p b T) : b < w.heap.size := by
  obtain ⟨D, ho, _⟩ := h.own
  exact ho.lt
theorem StoD.kept {D : DataW Value} (h : StoD w base D T) (hs : w.heap.size ≤ w'.heap.size) (hk : ∀ (g : Nat) c fz, w.heap[g]? = some (Obj.cells c 5 fz) → w'.heap[g]? = w.heap[g]?) : StoD w' base D T :=
  ⟨h.has, fun e he => by obtain ⟨v, h1, h2⟩ := h.val e he; exact ⟨v, h1, h2.kept hs hk⟩, h.nodup, h.size⟩
theorem Sto.kept (h : Sto w base p b T) (hs : w.heap.size ≤ w'.heap.size) (hk : ∀ k, StoK w k → w'.heap[k]? = w.heap[k]?) : Sto w' base p b T := by
  obtain ⟨D, ho, hD⟩ := h.own
  have hp := hk p (.inr (.inr ⟨_, _, h.cell⟩))
  have hb : w'.heap[b]? = w.heap[b]? := by
    obtain ⟨es, c, h1, _⟩ := ho
    exact hk b (.inl ⟨es, c, h1⟩)
  exact ⟨h.hp, h.hb, hp.trans h.cell, by have := h.lt; omega, D, ownsMap_at ho hb, hD.kept hs (fun g c fz hg => hk g (.inr (.inl ⟨c, fz, hg⟩)))⟩
theorem stok_lt {k : Nat} (h : StoK w k) : k < w.heap.size := by
  rcases Nat.lt_or_ge k w.heap.size with hlt | hge
  · exact hlt
  · rcases h with ⟨_, _, h⟩ | ⟨_, _, h⟩ | ⟨_, _, h⟩ <;> (rw [Array.getElem?_eq_none hge] at h; cases h)
theorem Sto.keep (h : Sto w base p b T) (hb : Below w.heap.size w w') : Sto w' base p b T :=
  h.kept hb.size (fun k hk => hb.block k (stok_lt hk))
/-- A row of texts has grown. -/
theorem Sto.grown {r : Option Nat} (h : Sto w base p b T) (hg : w.grownBy w' r) (hr : ∀ k, r = some k → ∃ c fz, w.heap[k]? = some (Obj.cells c 9 fz)) : Sto w' base p b T := by
  refine h.kept hg.size (fun k hk => hg.block k (stok_lt hk) (fun e => ?_))
  obtain ⟨c, fz, hc⟩ := hr k e.symm
  rcases hk with ⟨_, _, h⟩ | ⟨_, _, h⟩ | ⟨_, _, h⟩
  · rw [hc] at h; cases h
  · rw [hc] at h; injection h with h; injection h with _ h _; exact absurd h (by decide)
  · rw [hc] at h; injection h with h; injection h with _ h _; exact absurd h (by decide)
/-- Another map has turned. -/
theorem Sto.turned {b2 : Nat} (h : Sto w base p b T) (hg : w.grownBy w' (some b2)) (hm : ∃ es c, w.heap[b2]? = some (Obj.map es c)) (hne : b ≠ b2) : Sto w' base p b T := by
  obtain ⟨D, ho, hD⟩ := h.own
  obtain ⟨es, c, hm⟩ := hm
  have hp : w'.heap[p]? = w.heap[p]? := hg.block p h.lt (fun e => by injection e with e; subst e; have := h.cell; rw [hm] at this; cases this)
  exact ⟨h.hp, h.hb, hp.trans h.cell, by have := h.lt; have := hg.size; omega, D, ownsMap_at ho (hg.block b ho.lt (fun e => hne (by injection e))), hD.kept hg.size (fun g c' fz hg' => hg.block g (stok_lt (.inr (.inl ⟨c', fz, hg'⟩))) (fun e => by injection e with e; subst e; rw [hm] at hg'; cases hg'))⟩
end
/-- A text comes. -/
def putT (T : List Ent) (t : Bs) : List Ent := if tagP 1 t ∈ keysE T then T else T ++ [(tagP 1 t, t)]
/-- The text of a sum. -/
def getT (T : List Ent) (k : Bs) : Option Bs := (T.find? (fun e => e.1 == k)).map (·.2)
theorem get_some {T : List Ent} (hn : (keysE T).Nodup) {e : Ent} (he : e ∈ T) : getT T e.1 = some e.2 := by
  induction T with
  | nil => cases he
  | cons x r ih =>
    unfold keysE at hn
    rw [List.map_cons, List.nodup_cons] at hn
    unfold getT
    rcases List.mem_cons.1 he with rfl | he
    · simp
    · have hne : (x.1 == e.1) = false := by
        rw [beq_eq_false_iff_ne]
        intro h
        exact hn.1 (by rw [h]; exact List.mem_map.2 ⟨e, he, rfl⟩)
      rw [List.find?_cons_of_neg (by rw [hne]; simp)]
      exact ih hn.2 he
theorem get_none {T : List Ent} {k : Bs} (h : k ∉ keysE T) : getT T k = none := by
  unfold getT
  rw [List.find?_eq_none.2 (fun x hx => by
    intro e
    exact h (List.mem_map.2 ⟨x, hx, by simpa using e⟩))]
  rfl
theorem keyS (k : Bs) (h : k.length ≤ maxLen) : keyOf Tryd.prog 9 (.string ⟨List.toArray (k)⟩) = some (.string k) := keyOf_string_mk Tryd.underlying9 (by simpa [ByteArray.size] using h)
theorem isKeyS (k : Bs) : WideAt.IsKeyLit (.string k) := by first | trivial | exact ⟨_, rfl⟩ | simp [WideAt.IsKeyLit]
end Go.Proofs.YtbnjhfkmdejeaaaDoor

/- Walks of the store: New, Put, Get. -/
set_option linter.unusedSimpArgs false
set_option linter.unusedVariables false
namespace Go.Proofs.YtbnjhfkmdejeaaaDoor
open Go.RowKit Go.WideMaps Go.Maps Go.Sort Pl

theorem zeroB (w : World) : (zeroValue 89).run Tryd.prog w = .ok nilV w := by
  have h : (Tryd.prog.info? 89).map (·.zero) = some (some nilV) := by kernel_rfl
  obtain ⟨i, hi, hz⟩ := Option.map_eq_some_iff.1 h
  simp [zeroValue, typeInfo, hi, hz]
section
variable {w : World} {base p b : Nat} {T : List Ent}
theorem mem_keys {T : List Ent} {k : Bs} : k ∈ keysE T ↔ ∃ t, (k, t) ∈ T := by
  unfold keysE
  rw [List.mem_map]
  constructor
  · rintro ⟨⟨a, t⟩, h, rfl⟩; exact ⟨t, h⟩
  · rintro ⟨t, h⟩; exact ⟨(k, t), h, rfl⟩
/-- v, ok := m[k]. -/
theorem Sto.look (h : Sto w base p b T) (k : Bs) (hk : k.length ≤ maxLen) :
    ∃ v, (Instr.lookup 109 (.map (some b)) (.string ⟨List.toArray (k)⟩) true).run Tryd.prog w = .ok (.tuple #[v, .bool (decide (k ∈ keysE T))]) w ∧ (∀ t, (k, t) ∈ T → BTx w base v t) ∧ (k ∉ keysE T → v = nilV) := by
  obtain ⟨D, ho, hD⟩ := h.own
  obtain ⟨v, ps, hrun, hv⟩ := ho.look_ok keyedS Tryd.underlying109 (zeroB w) (zd := .held nilV) (zp := []) rfl (keyS k hk)
  rw [hD.has] at hrun
  refine ⟨v, hrun, fun t ht => ?_, fun hn => ?_⟩
  · obtain ⟨u, h1, h2⟩ := hD.val (k, t) ht
    rw [h1] at hv
    rw [hR_inv hv]
    exact h2
  · rw [atKey_of_not_has (by rw [hD.has]; simpa using hn)] at hv
    exact hR_inv hv
theorem put_mem {T : List Ent} {t : Bs} (h : tagP 1 t ∈ keysE T) : putT T t = T := if_pos h
theorem put_new {T : List Ent} {t : Bs} (h : tagP 1 t ∉ keysE T) : putT T t = T ++ [(tagP 1 t, t)] := if_neg h
theorem StoD.put {D : DataW Value} (h : StoD w base D T) (hD : Tidy D) (k t : Bs) (v : Value) (hn : k ∉ keysE T) (hv : BTx w base v t) : StoD w base (D.put (.string k) (.held v)) (T ++ [(k, t)]) := by
  refine ⟨fun k' => ?_, fun e he => ?_, ?_, ?_⟩
  · by_cases e : k' = k
    · subst e
      rw [has_put_same hD.isMap (isKeyS k')]
      simp [keysE]
    · rw [has_put_other (by intro h; injection h with h; exact e h), h.has, decide_eq_decide]
      unfold keysE
      rw [List.map_append, List.mem_append]
      simp [e]
  · rcases List.mem_append.1 he with he | he
    · obtain ⟨u, h1, h2⟩ := h.val e he
      have hne : e.1 ≠ k := fun h => hn (by rw [← h]; exact mem_keys.2 ⟨e.2, he⟩)
      exact ⟨u, by rw [atKey_put_other (by intro h; injection h with h; exact hne h)]; exact h1, h2⟩
    · rw [List.mem_singleton] at he
      subst he
      exact ⟨v, by rw [atKey_put_same hD.isMap (isKeyS k)], hv⟩
  · unfold keysE
    rw [List.map_append, List.nodup_append]
    refine ⟨h.nodup, by simp, fun a ha b hb e => ?_⟩
    simp only [List.map_cons, List.map_nil, List.mem_singleton] at hb
    subst hb e
    exact hn ha
  · rw [size_put hD, h.has, if_neg (by simpa using hn), h.size, List.length_append]
    rfl
end
set_option maxRecDepth 100000 in
set_option maxHeartbeats 400000 in
theorem snew_any (w : World) :
    Calls Tryd.prog 59 #[] w fun e w' => e = .returned (.pointer (some ⟨w.heap.size + 1, 0, none⟩)) ∧ Sto w' w.heap.size (w.heap.size + 1) w.heap.size [] ∧ Below w.heap.size w w' := by
  have hmm := @run_makeMap Tryd.prog
  have hown : (w.alloc (.map #[] 0)).ownsMap (H := Value) Tryd.prog 9 hR w.heap.size 0 (.map []) := World.ownsMap_made _ _ _ _
  go_enter Tryd.func59, Tryd.ntmps59
  go_wp2_with fail
  go_ret
  refine ⟨rfl, ⟨by omega, Nat.le_refl _, ?_, by simp, _, hown.alloc _, ?_⟩, ?_⟩
  · have := heap_alloc_new (w.alloc (.map #[] 0)) (.cells #[.map (some w.heap.size)] 111)
    simpa using this
  · exact ⟨fun k => (by rw [has_eq]; simp [keysE]), fun e he => (by cases he), (by simp [keysE]), rfl⟩
  · exact Below.allocS ((Below.refl _ _).alloc (Nat.le_refl _) _) _
set_option maxRecDepth 100000 in
set_option maxHeartbeats 1000000 in
theorem sput_any (base p b : Nat) (T : List Ent) (t : Bs) (ht : t.length ≤ 1000) (hT : T.length ≤ 1000) (w : World) (hk : KT w) (h : Sto w base p b T) :
    Calls Tryd.prog 60 #[.pointer (some ⟨p, 0, none⟩), .string ⟨List.toArray (t)⟩] w fun e w' => e = .returned (.string ⟨List.toArray (tagP 1 t)⟩) ∧ Sto w' base p b (putT T t) ∧ w.grownBy w' (some b) := by
  have hds := digsum_ok 1 (by omega) (by omega) t (by omega) w hk
  have hkl : (tagP 1 t).length ≤ maxLen := by rw [tagP_len]; unfold maxLen; omega
  have HP : Hid (tagP 1 t ∈ keysE T → putT T t = T) := Lib.hid put_mem
  have HQ : Hid (tagP 1 t ∉ keysE T → putT T t = T ++ [(tagP 1 t, t)]) := Lib.hid put_new
  have HT := Lib.hid ht
  generalize tagP 1 t = s at *
  generalize putT T t = T' at *
  have HS := Lib.hid h
  clear h ht
  go_enter Tryd.func60, Tryd.ntmps60
  go_wp2_with fail
  refine hds.mono ?_
  rintro e w1 ⟨rfl, hb⟩
  have h1 := HS.out.keep hb
  have hlk := h1.look s hkl
  obtain ⟨v, hrun, hv1, hv2⟩ := hlk
  obtain ⟨b1, b2, b3⟩ := id h1.blk
  by_cases hin : s ∈ keysE T
  · rw [show decide (s ∈ keysE T) = true from by simpa using hin] at hrun
    clear hv1 hv2
    go_wp2_with fail
    all_goals (go_ret; exact ⟨rfl, by rw [HP.out hin]; exact h1, ⟨hb.os, hb.tape, hb.output, hb.size, fun k hk _ => hb.block k hk⟩⟩)
  · rw [show decide (s ∈ keysE T) = false from by simpa using hin] at hrun
    obtain rfl := hv2 hin
    clear hv1 hv2
    obtain ⟨D, ho, hD⟩ := h1.own
    have htd := ho.tidy keyedS
    have hblt := ho.lt
    clear h1
    have HB := Lib.hid hb
    clear hb
    go_wp2_with (refine wpList_convT rfl (.tmp 30) rfl t rfl (by have := HT.out; unfold maxLen; omega) ?_; intro u w2 hu hb02; have ho2 := ownsMap_at ho (hb02.block b hblt); obtain ⟨w3, hrun3, ho3, hg3⟩ := ho2.update keyedS Tryd.underlying109 (by unfold maxLen; omega) (keyS s hkl) (show hR u = some (.held u, []) from rfl))
    go_ret
    have hS1 := HS.out.keep HB.out
    have hS2 := hS1.keep hb02
    have hnb : ∀ g c fz, w2.heap[g]? = some (Obj.cells c 5 fz) → some g ≠ some b := by
      intro g c fz hg e
      injection e with e
      subst e
      obtain ⟨es, cl, hm, _⟩ := ho2
      rw [hm] at hg
      cases hg
    have hpb : some p ≠ some b := by
      intro e
      injection e with e
      subst e
      obtain ⟨es, cl, hm, _⟩ := ho2
      have := hS2.cell
      rw [hm] at this
      cases this
    have hD2 : StoD w2 base D T := hD.kept hb02.size (fun g c fz hg => hb02.block g (stok_lt (.inr (.inl ⟨c, fz, hg⟩))))
    have hD3 := (hD2.put htd s t u hin (by
      obtain ⟨g, cap, c, fz, q1, q2, q3⟩ := hu
      exact ⟨g, cap, c, fz, q1, Nat.le_trans (Nat.le_trans HS.out.hp (Nat.le_of_lt HS.out.lt)) (Nat.le_trans HB.out.size q2), q3⟩)).kept hg3.size (fun g c fz hg => hg3.block g (stok_lt (.inr (.inl ⟨c, fz, hg⟩))) (hnb g c fz hg))
    refine ⟨rfl, ?_, ?_⟩
    · rw [HQ.out hin]
      refine ⟨hS2.hp, hS2.hb, (hg3.block p hS2.lt hpb).trans hS2.cell, by have := hS2.lt; have := hg3.size; omega, _, ?_, hD3⟩
      rw [List.length_append]
      exact ho3
    · have h1 := HB.out
      refine ⟨hg3.os.trans (hb02.os.trans h1.os), hg3.tape.trans (hb02.tape.trans h1.tape), hg3.output.trans (hb02.output.trans h1.output), Nat.le_trans h1.size (Nat.le_trans hb02.size hg3.size), fun k hk hne => ?_⟩
      rw [hg3.block k (by have := h1.size; have := hb02.size; omega) hne, hb02.block k (by have := h1.size; omega), h1.block k hk]
/-- A text of a sum. -/
theorem get_of {T : List Ent} (hn : (keysE T).Nodup) {k t : Bs} (h : (k, t) ∈ T) : getT T k = some t := get_some hn h
theorem Sto.nodup {w : World} {base p b : Nat} {T : List Ent} (h : Sto w base p b T) : (keysE T).Nodup := by
  obtain ⟨D, _, hD⟩ := h.own
  exact hD.nodup
set_option maxRecDepth 100000 in
set_option maxHeartbeats 1000000 in
theorem sget_any (base p b : Nat) (T : List Ent) (k : Bs) (hk : k.length ≤ maxLen) (w : World) (h : Sto w base p b T) :
    Calls Tryd.prog 35 #[.pointer (some ⟨p, 0, none⟩), .string ⟨List.toArray (k)⟩] w fun e w' => e = .returned (.tuple #[.string ⟨List.toArray ((getT T k).getD [])⟩, .bool (decide (k ∈ keysE T))]) ∧ Below w.heap.size w w' := by
  obtain ⟨v, hrun, hv1, hv2⟩ := h.look k hk
  have hconv : (convert 89 9 v).run Tryd.prog w = .ok (.string ⟨List.toArray ((getT T k).getD [])⟩) w := by
    by_cases hin : k ∈ keysE T
    · obtain ⟨t, ht⟩ := mem_keys.1 hin
      rw [get_of h.nodup ht]
      exact (hv1 t ht).conv
    · rw [hv2 hin, get_none hin]
      exact run_convert_bytes_nil w 89 5 Tryd.underlying89 Tryd.underlying5 0 0 9 Tryd.underlying9
  generalize decide (k ∈ keysE T) = q at *
  generalize (getT T k).getD [] = s at *
  obtain ⟨b1, b2, b3⟩ := id h.blk
  clear hv1 hv2 h
  go_enter Tryd.func35, Tryd.ntmps35
  go_wp2_with fail
  all_goals (go_ret2; exact ⟨rfl, Below.refl _ _⟩)
end Go.Proofs.YtbnjhfkmdejeaaaDoor

/- The keys of a map, sorted: slices.Sorted(maps.Keys(m)), by the library's contracts. -/
set_option linter.unusedSimpArgs false
set_option linter.unusedVariables false
set_option linter.unnecessarySimpa false
namespace Go.Proofs.YtbnjhfkmdejeaaaDoor
open Go.RowKit Go.WideMaps Go.Maps Go.Sort Go.Shelf Pl

/-- slices.Sort's two contracts, at the fence that asks nothing. -/
theorem sortsM (m : Nat) : AnyZ.SortsIn Tryd.prog sortedS_ren Fence.wide m :=
  ⟨fun blk off cap ss W hH hblk hsz => callsIn_wide.2 (AnyM.slices_Sort_string sortM blk off cap ss W hH hblk hsz),
   fun p cap W => callsIn_wide.2 (AnyM.slices_Sort_string_none sortM p cap W)⟩
theorem keysB_any (mb : Option Nat) (W : World) : Calls Tryd.prog 64 #[.map mb] W fun e w' => e = .returned (.func (.func 82) #[] #[.pointer (some ⟨W.heap.size, 0, none⟩)]) ∧ w' = W.alloc (.cells #[.map mb] 109) :=
  (callsIn_wide (n := 5)).1 (AnyZ.keys_in keysB Fence.wide 5 trivial rfl mb W)
theorem keysI_any (mb : Option Nat) (W : World) : Calls Tryd.prog 65 #[.map mb] W fun e w' => e = .returned (.func (.func 83) #[] #[.pointer (some ⟨W.heap.size, 0, none⟩)]) ∧ w' = W.alloc (.cells #[.map mb] 70) :=
  (callsIn_wide (n := 5)).1 (AnyZ.keys_in keysI Fence.wide 5 trivial rfl mb W)
set_option maxHeartbeats 1000000 in
theorem sortedB_any {H : Type} (b nn : Nat) (D0 : DataW H) (R : Value → Option (DataW H × List MemPlace)) (w : World) (hown : w.ownsMap Tryd.prog 9 R b nn D0) (hmax : Maps.size D0 ≤ 1000000) :
    Calls Tryd.prog 63 #[.func (.func 82) #[] #[.pointer (some ⟨w.heap.size, 0, none⟩)]] (w.alloc (.cells #[.map (some b)] 109)) fun e w' => ∃ v, e = .returned v ∧ SRow w' w.heap.size v ((strKeys D0).mergeSort (fun x y => decide (x ≤ y))) ∧ Below w.heap.size (w.alloc (.cells #[.map (some b)] 109)) w' := by
  have hbl := hown.lt
  have hseq : SeqGives Fence.wide 2 Tryd.prog 82 #[.pointer (some ⟨w.heap.size, 0, none⟩)] encStr (fun ss => ss.Perm (strKeys D0)) (Maps.size D0) (w.alloc (.cells #[.map (some b)] 109)) :=
    AnyZ.keys_gives (ρ := keysB_ren) { keysB with } Fence.wide _ trivial rfl (by omega) w.heap.size b nn D0 _ (by simp) (by simp) (by
      obtain ⟨es, clock, hb, Ft, hs, hD⟩ := hown
      exact ⟨es, clock, (Below.heap_alloc _ _ b hbl).trans hb, Ft, hs, hD⟩)
  have h := (callsIn_wide (n := 5)).1 (AnyZ.sorted_in sortedS Fence.wide 5 trivial trivial trivial trivial rfl (by omega) (sortsM _) (enters_of Tryd.func56 (by kernel_rfl) rfl) 82 #[.pointer (some ⟨w.heap.size, 0, none⟩)] trivial (enters_of Tryd.func82 (by kernel_rfl) rfl) _ _ (by unfold maxLen; omega) (by omega) _ hseq)
  refine h.mono ?_
  rintro e w' ⟨v, ss, rfl, hp, hrow, _, hb⟩
  refine ⟨v, rfl, ?_, hb.mono (by simp)⟩
  rw [mergeSort_of_perm hp] at hrow
  have hl : ss.length = ((strKeys D0).mergeSort (fun x y => decide (x ≤ y))).length := by rw [List.length_mergeSort, hp.length_eq]
  rw [hl] at hrow
  exact SRow.low (show SRow w' _ v _ from hrow) (by simp)
set_option maxHeartbeats 1000000 in
theorem sortedI_any {H : Type} (b nn : Nat) (D0 : DataW H) (R : Value → Option (DataW H × List MemPlace)) (w : World) (hown : w.ownsMap Tryd.prog 9 R b nn D0) (hmax : Maps.size D0 ≤ 1000000) :
    Calls Tryd.prog 63 #[.func (.func 83) #[] #[.pointer (some ⟨w.heap.size, 0, none⟩)]] (w.alloc (.cells #[.map (some b)] 70)) fun e w' => ∃ v, e = .returned v ∧ SRow w' w.heap.size v ((strKeys D0).mergeSort (fun x y => decide (x ≤ y))) ∧ Below w.heap.size (w.alloc (.cells #[.map (some b)] 70)) w' := by
  have hbl := hown.lt
  have hseq : SeqGives Fence.wide 2 Tryd.prog 83 #[.pointer (some ⟨w.heap.size, 0, none⟩)] encStr (fun ss => ss.Perm (strKeys D0)) (Maps.size D0) (w.alloc (.cells #[.map (some b)] 70)) :=
    AnyZ.keys_gives (ρ := keysI_ren) { keysI with } Fence.wide _ trivial rfl (by omega) w.heap.size b nn D0 _ (by simp) (by simp) (by
      obtain ⟨es, clock, hb, Ft, hs, hD⟩ := hown
      exact ⟨es, clock, (Below.heap_alloc _ _ b hbl).trans hb, Ft, hs, hD⟩)
  have h := (callsIn_wide (n := 5)).1 (AnyZ.sorted_in sortedS Fence.wide 5 trivial trivial trivial trivial rfl (by omega) (sortsM _) (enters_of Tryd.func56 (by kernel_rfl) rfl) 83 #[.pointer (some ⟨w.heap.size, 0, none⟩)] trivial (enters_of Tryd.func83 (by kernel_rfl) rfl) _ _ (by unfold maxLen; omega) (by omega) _ hseq)
  refine h.mono ?_
  rintro e w' ⟨v, ss, rfl, hp, hrow, _, hb⟩
  refine ⟨v, rfl, ?_, hb.mono (by simp)⟩
  rw [mergeSort_of_perm hp] at hrow
  have hl : ss.length = ((strKeys D0).mergeSort (fun x y => decide (x ≤ y))).length := by rw [List.length_mergeSort, hp.length_eq]
  rw [hl] at hrow
  exact SRow.low (show SRow w' _ v _ from hrow) (by simp)
end Go.Proofs.YtbnjhfkmdejeaaaDoor

/- Walks of the store: Sums; what a store has no text for. -/
set_option linter.unusedSimpArgs false
set_option linter.unusedVariables false
namespace Go.Proofs.YtbnjhfkmdejeaaaDoor
open Go.RowKit Go.WideMaps Go.Maps Go.Sort Pl

theorem keys_perm {H : Type} {w : World} {R : Value → Option (DataW H × List MemPlace)} {b n : Nat} {D : DataW H} {ss : List Bs} (ho : w.ownsMap Tryd.prog 9 R b n D) (hn : ss.Nodup) (hm : ∀ k : Bs, Maps.has D (.string k) = decide (k ∈ ss)) : ss.Perm (strKeys D) :=
  Collected.perm (left := fun _ => false) ⟨hn, fun x => by simp [hm]⟩ ho keyedS Tryd.underlying9 (fun _ => rfl)
/-- Texts in order. -/
def sortB (l : List Bs) : List Bs := l.mergeSort (fun x y => decide (x ≤ y))
theorem sortB_perm (l : List Bs) : (sortB l).Perm l := List.mergeSort_perm _ _
theorem sortB_of {l m : List Bs} (h : l.Perm m) : sortB l = sortB m := mergeSort_of_perm h
set_option maxRecDepth 100000 in
set_option maxHeartbeats 1000000 in
theorem ssums_any (base p b : Nat) (T : List Ent) (hT : T.length ≤ 1000) (w : World) (h : Sto w base p b T) :
    Calls Tryd.prog 34 #[.pointer (some ⟨p, 0, none⟩)] w fun e w' => ∃ v, e = .returned v ∧ SRow w' w.heap.size v (sortB (keysE T)) ∧ Below w.heap.size w w' := by
  obtain ⟨D, ho, hD⟩ := h.own
  have hkb := keysB_any (some b)
  have hso := sortedB_any b _ D hR w ho (by rw [hD.size]; omega)
  have hp : sortB (strKeys D) = sortB (keysE T) := (sortB_of (keys_perm ho hD.nodup hD.has)).symm
  rw [show (strKeys D).mergeSort (fun x y => decide (x ≤ y)) = sortB (keysE T) from hp] at hso
  generalize sortB (keysE T) = L at *
  obtain ⟨b1, b2, b3⟩ := id h.blk
  clear h ho hD hp
  go_enter Tryd.func34, Tryd.ntmps34
  go_wp2_with fail
  refine (hkb _).mono ?_
  rintro e w1 ⟨rfl, rfl⟩
  go_wp2_with fail
  refine hso.mono ?_
  rintro e w2 ⟨v, rfl, hr, hb⟩
  go_wp2_with fail
  go_ret
  exact ⟨v, rfl, hr, (Below.allocS (Below.refl _ _) _).trans hb⟩
end Go.Proofs.YtbnjhfkmdejeaaaDoor
