/- General lemmas, further ones: a region whose reads and quiet calls stand ahead of one store; whole rows (arrays, structs) loaded and stored as opaque lists; results that lie in cells. -/
import Derived.Test.YtmldonbmjgelnaaDoorKit
import Derived.Deep.MidRow
set_option linter.unusedSimpArgs false
set_option linter.unusedVariables false
namespace Go.Proofs.YtmldonbmjgelnaaDoor
open Go.RowKit

theorem wp_tail {P : Program} {id : Nat} {Q : Exit → Act → World → Prop} {a : Act} {w : World} {l : List Oper} (n : Nat) (hm : P.follows .mixedOrders = true) (hB : Region.lexTailB .any l.toArray n = true)
    (h : ∀ w2, w2 = w.drew → wpStill P l.toArray w2 (fun a' => wpList P l.toArray Q (l.drop n) a' w2) (l.take n) a) : (Code.region id l.toArray true).wp P Q a w :=
  wp_region_still_tail n hm hB (h _ rfl)

/-- A type whose values are rows of n cells. -/
structure RowT (P : Program) (T : TypeId) (n : Nat) : Prop where
  und : ∃ d, P.underlying T = some d ∧ d.isRow = true
  size : (P.info? T).map (·.size) = some n
theorem RowT.mk' {P : Program} {T : TypeId} {n : Nat} {d : TypeDesc} (h : P.underlying T = some d) (hd : d.isRow = true) (hs : (P.info? T).map (·.size) = some n) : RowT P T n := ⟨⟨d, h, hd⟩, hs⟩

theorem Blk.range {w : World} {b : Nat} {vs : List Value} (h : Blk w b vs.toArray) : w.rangeAt b 0 vs := by
  intro j v hv
  rw [Nat.zero_add, h.cell j]
  simpa using hv
theorem Mod.setCellsL (b : Nat) : ∀ (vs : List Value) (o : Nat) (w : World), Mod [b] w (w.setCells b o vs)
  | [], _, w => Mod.refl _ _
  | v :: r, o, w => by
    rw [World.setCells]
    exact ((Mod.refl _ w).setCell (.inl (by simp)) v).trans (Mod.setCellsL b r (o + 1) _)

section
variable {P : Program} {T : TypeId} {n : Nat} {ops : Array Oper} {rest : List Oper} {op : Oper} {a : Act} {w : World} {Q : Exit → Act → World → Prop}
theorem wpList_rowLoad (hT : RowT P T n) (hgd : op.guard = none) (x : Operand) (ho : op.op = .load T x) {b : Nat} (hx : a.eval x = .pointer (some ⟨b, 0, none⟩)) {vs : List Value} (hl : vs.length = n) (hB : Blk w b vs.toArray)
    (h : wpList P ops Q rest (a.put op.dst (.agg vs.toArray)) w) : wpList P ops Q (op :: rest) a w := by
  obtain ⟨⟨d, h1, h2⟩, h3⟩ := hT
  exact wpList_load_mid hgd T x ho b 0 hx vs d hB.range h1 h2 (by rw [hl]; exact h3) h
theorem wpList_rowLoadG (hT : RowT P T n) (hw : Region.wanted op (yielded ops a.tmps) = true) (x : Operand) (ho : op.op = .load T x) {b : Nat} (hx : a.eval x = .pointer (some ⟨b, 0, none⟩)) {vs : List Value} (hl : vs.length = n) (hB : Blk w b vs.toArray)
    (h : wpList P ops Q rest (a.put op.dst (.agg vs.toArray)) w) : wpList P ops Q (op :: rest) a w := by
  obtain ⟨⟨d, h1, h2⟩, h3⟩ := hT
  refine wpList_step fun K hK => ?_
  rw [if_pos hw]
  exact wp_load_mid T x ho b 0 hx vs d hB.range h1 h2 (by rw [hl]; exact h3) (hK _ _ h)
theorem wpList_rowStore (hT : RowT P T n) (hgd : op.guard = none) (hd : op.dst = none) (x y : Operand) (ho : op.op = .store T x y) {b : Nat} (hx : a.eval x = .pointer (some ⟨b, 0, none⟩)) {vs : List Value} (hy : a.eval y = .agg vs.toArray) (hl : vs.length = n) (h1 : ∀ v ∈ vs, v.oneCell' = true)
    {us : List Value} (hlu : us.length = n) (hB : Blk w b us.toArray)
    (h : ∀ w', Blk w' b vs.toArray → Mod [b] w w' → wpList P ops Q rest a w') : wpList P ops Q (op :: rest) a w := by
  obtain ⟨_, h3⟩ := hT
  have ht : w.there b 0 vs.length := fun j hj => by
    rw [Nat.zero_add, hB.cell, hB.froz]
    simp; omega
  refine wpList_store_mid hgd T x y ho b 0 _ hx hy (by simpa using ht) (by simp [hl, h3]) (all_oneCell_toArray h1) ?_
  rw [hd]
  refine h _ ⟨fun o => ?_, fun o => by rw [World.frozen?_setCells]; exact hB.froz o, ?_⟩ (Mod.setCellsL b _ 0 w)
  · by_cases ho : o < vs.length
    · have := World.cell?_setCells_in b vs 0 w (fun i hi => (ht i hi).1) o ho
      rw [Nat.zero_add] at this
      simp only [List.getElem?_toArray]
      rw [List.getElem?_eq_getElem ho]
      exact this
    · rw [World.cell?_setCells_out b _ 0 w _ (fun _ _ => .inr (by simp at ho ⊢; omega)), hB.cell]
      simp at ho ⊢
      rw [List.getElem?_eq_none (by omega), List.getElem?_eq_none (by omega)]
  · exact Nat.lt_of_lt_of_le hB.lt (Mod.setCellsL b _ 0 w).size
theorem row_loadVar (hT : RowT P T n) (w : World) {b : Nat} {vs : List Value} (hl : vs.length = n) (hB : Blk w b vs.toArray) : (loadVar T ⟨b, 0, none⟩).run P w = .ok (.agg vs.toArray) w := by
  obtain ⟨⟨d, h1, h2⟩, h3⟩ := hT
  exact run_loadVar_mid w b 0 T vs d hB.range h1 h2 (by rw [hl]; exact h3)
end

/-- A name for the world. -/
theorem Below.name {B : Nat} {a w : World} (_ : Below B a w) : ∃ w' : World, w' = w := ⟨w, rfl⟩

/-- A lone result that lies in a cell. -/
theorem results_cell1 {P : Program} {fn : Func} {a : Nat} {t : TypeId} (h : fn.results = #[.cell a t]) (tmps : Array Value) (w : World) (p : Addr) (v : Value) (hp : tmps.getD a undef = .pointer (some p)) (hl : (loadVar t p).run P w = .ok v w) :
    (results fn tmps).run P w = .ok v w := by
  unfold results
  rw [h]
  rw [Array.getD_eq_getD_getElem?] at hp
  simp [hp, asAddr, hl, Sem.run_bind]

/-- A callee that only computes, in a region that only reads: behind no draw, behind draws. -/
theorem quietC {P : Program} {f : FuncId} {args : Array Value} {w : World} {n : Nat} {v : Value} (h : ∀ W : World, Calls P f args W fun e w' => e = .returned v ∧ W = w') :
    Calls P f args (w.drewN n) fun e w'' => e = .returned v ∧ ∃ k, w'' = w.drewN k :=
  (h _).mono fun _ _ ⟨he, hw⟩ => ⟨he, n, hw.symm⟩
theorem quietD {P : Program} {f : FuncId} {args : Array Value} {w : World} {a n : Nat} {v : Value} (h : ∀ W : World, Calls P f args W fun e w' => e = .returned v ∧ W = w') :
    Calls P f args (w.drewN (a + n)) fun e w'' => e = .returned v ∧ ∃ k, w'' = w.drewN (a + k) :=
  (h _).mono fun _ _ ⟨he, hw⟩ => ⟨he, n, hw.symm⟩

/-! ### A region in the text's order: what stood before stays, calls may make memory -/
section
variable {P : Program} {ops : Array Oper} {C : World → Prop} {Q : Act → Prop} {o : Oper} {rest : List Oper} {a : Act}
theorem wpQ_skip (hw : Region.wanted o (yielded ops a.tmps) = false) (h : wpQuiet P ops C Q rest (a.put o.dst undef)) : wpQuiet P ops C Q (o :: rest) a := by
  unfold wpQuiet
  rw [if_neg (by rw [hw]; simp)]
  exact h
theorem wpQ_load (hw : Region.wanted o (yielded ops a.tmps) = true) (u : Value) (hv : ∀ w, C w → (execOp a.eval o).run P w = .ok (.value u) w) (h : wpQuiet P ops C Q rest (a.put o.dst u)) : wpQuiet P ops C Q (o :: rest) a := by
  unfold wpQuiet
  rw [if_pos hw]
  exact ⟨u, fun w hC => by unfold Oper.quietAt; rw [hv w hC]; exact ⟨rfl, rfl⟩, h⟩
theorem wpQ_pure (hw : Region.wanted o (yielded ops a.tmps) = true) (u : Value) (hv : ∀ w, (execOp a.eval o).run P w = .ok (.value u) w) (h : wpQuiet P ops C Q rest (a.put o.dst u)) : wpQuiet P ops C Q (o :: rest) a :=
  wpQ_load hw u (fun w _ => hv w) h
theorem wpQ_call (hw : Region.wanted o (yielded ops a.tmps) = true) (f : FuncId) (args : Array Value) (v : Value) (hc : ∀ w, C w → Calls P f args w fun e w' => e = .returned v ∧ C w') (hv : ∀ w, (execOp a.eval o).run P w = .ok (.enter f args) w)
    (h : wpQuiet P ops C Q rest (a.put o.dst v)) : wpQuiet P ops C Q (o :: rest) a := by
  unfold wpQuiet
  rw [if_pos hw]
  exact ⟨v, fun w hC => by unfold Oper.quietAt; rw [hv w]; exact ⟨rfl, hc w hC⟩, h⟩
theorem wpQ_row {T : TypeId} {n : Nat} (hT : RowT P T n) (hw : Region.wanted o (yielded ops a.tmps) = true) (x : Operand) (ho : o.op = .load T x) {b : Nat} (hx : a.eval x = .pointer (some ⟨b, 0, none⟩)) {vs : List Value} (hl : vs.length = n) (hB : ∀ w, C w → Blk w b vs.toArray)
    (h : wpQuiet P ops C Q rest (a.put o.dst (.agg vs.toArray))) : wpQuiet P ops C Q (o :: rest) a :=
  wpQ_load hw _ (fun w hC => by
    unfold execOp
    simp only [ho, hx, Instr.loadAt, Instr.sureAddr, Sem.run_bind, Sem.run_pure, Result.andThen_ok, row_loadVar hT w hl (hB w hC)]) h
theorem wpQ_cell {T : TypeId} (hw : Region.wanted o (yielded ops a.tmps) = true) (x : Operand) (ho : o.op = .load T x) {ad : Addr} (hx : a.eval x = .pointer (some ad)) {v : Value} (hc : ∀ w, C w → w.cell? ad = some v)
    (hr : ∀ w, w.cell? ad = some v → (loadVar T ad).run P w = .ok v w)
    (h : wpQuiet P ops C Q rest (a.put o.dst v)) : wpQuiet P ops C Q (o :: rest) a :=
  wpQ_load hw _ (fun w hC => by
    unfold execOp
    simp only [ho, hx, Instr.loadAt, Instr.sureAddr, Sem.run_bind, Sem.run_pure, Result.andThen_ok, hr w (hc w hC)]) h
end
theorem wp_held {P : Program} {id : Nat} {Q : Exit → Act → World → Prop} {a : Act} {w : World} {l : List Oper} (hm : P.follows .mixedOrders = true) (hB : Region.lexB .any l.toArray = true)
    (h : wpQuiet P l.toArray (Below w.heap.size w) (fun a' => ∀ w', Below w.heap.size w w' → Q .normal a' w') l a) : (Code.region id l.toArray true).wp P Q a w :=
  wp_region_quiet (C := Below w.heap.size w) hm hB (Below.refl _ _).drew (by simpa using h)
/-- A call that leaves what stood before. -/
theorem callB {P : Program} {W : World} {f : FuncId} {args : Array Value} {v : Value} (h : ∀ w, Calls P f args w fun e w' => e = .returned v ∧ Below w.heap.size w w') :
    ∀ w, Below W.heap.size W w → Calls P f args w fun e w' => e = .returned v ∧ Below W.heap.size W w' :=
  fun w hb => (h w).mono fun _ _ ⟨he, hb2⟩ => ⟨he, hb.trans (hb2.mono hb.size)⟩
theorem callW {P : Program} {W : World} {f : FuncId} {args : Array Value} {v : Value} (h : ∀ w, Below W.heap.size W w → Calls P f args w fun e w' => e = .returned v ∧ Below w.heap.size w w') :
    ∀ w, Below W.heap.size W w → Calls P f args w fun e w' => e = .returned v ∧ Below W.heap.size W w' :=
  fun w hb => (h w hb).mono fun _ _ ⟨he, hb2⟩ => ⟨he, hb.trans (hb2.mono hb.size)⟩
/-- One that only computes, or only draws. -/
theorem callS {P : Program} {W : World} {f : FuncId} {args : Array Value} {v : Value} (h : ∀ w, Below W.heap.size W w → Calls P f args w fun e w' => e = .returned v ∧ w = w') :
    ∀ w, Below W.heap.size W w → Calls P f args w fun e w' => e = .returned v ∧ Below W.heap.size W w' :=
  fun w hb => (h w hb).mono fun _ _ ⟨he, hb2⟩ => ⟨he, hb2 ▸ hb⟩
theorem callD {P : Program} {W : World} {f : FuncId} {args : Array Value} {v : Value} (h : ∀ w, Below W.heap.size W w → Calls P f args w fun e w' => e = .returned v ∧ ∃ n, w' = w.drewN n) :
    ∀ w, Below W.heap.size W w → Calls P f args w fun e w' => e = .returned v ∧ Below W.heap.size W w' :=
  fun w hb => (h w hb).mono fun _ _ ⟨he, n, hb2⟩ => ⟨he, hb2 ▸ below_drewN hb n⟩

/-! ### A region in an order of ours: what only computes or reads what stays comes first; calls one by one -/
section
variable {P : Program} {ops : Array Oper} {S : World → Prop} {Q : Exit → Act → World → Prop} {fuel : Nat} {listed : Array Bool} {a : Act} {w : World} {oi : Oper}
theorem wpH_pure (i : Nat) (u : Value) (hi : ops[i]? = some oi) (hs : Region.noSelect ops = true) (hf : Region.free .any ops listed i = true) (hr : (Region.ready .any ops listed).contains i = true)
    (hw : Region.wanted oi (yielded ops a.tmps) = true) (hS : S w) (hQ : ∀ c a w, Q (.panic c) (a.put oi.dst u) w → Q (.panic c) a w) (hv : ∀ w, (execOp a.eval oi).run P w = .ok (.value u) w)
    (h : wpAnyH P .any ops Q S fuel (listed.setIfInBounds i true) (a.put oi.dst u) w) : wpAnyH P .any ops Q S (fuel + 1) listed a w :=
  wpAnyH_take hi hs hf hr hQ (.inl ⟨hw, fun w _ => hv w⟩) hS h
theorem wpH_skip (i : Nat) (hi : ops[i]? = some oi) (hs : Region.noSelect ops = true) (hf : Region.free .any ops listed i = true) (hr : (Region.ready .any ops listed).contains i = true)
    (hw : Region.wanted oi (yielded ops a.tmps) = false) (hS : S w) (hQ : ∀ c a w, Q (.panic c) (a.put oi.dst undef) w → Q (.panic c) a w)
    (h : wpAnyH P .any ops Q S fuel (listed.setIfInBounds i true) (a.put oi.dst undef) w) : wpAnyH P .any ops Q S (fuel + 1) listed a w :=
  wpAnyH_take hi hs hf hr hQ (.inr ⟨hw, rfl⟩) hS h
theorem wpH_row {T : TypeId} {n : Nat} (hT : RowT P T n) (i : Nat) (hi : ops[i]? = some oi) (hs : Region.noSelect ops = true) (hf : Region.free .any ops listed i = true) (hr : (Region.ready .any ops listed).contains i = true)
    (hw : Region.wanted oi (yielded ops a.tmps) = true) (hS : S w) {vs : List Value} (hQ : ∀ c a w, Q (.panic c) (a.put oi.dst (.agg vs.toArray)) w → Q (.panic c) a w) (x : Operand) (ho : oi.op = .load T x) {b : Nat} (hx : a.eval x = .pointer (some ⟨b, 0, none⟩)) (hl : vs.length = n) (hB : ∀ w, S w → Blk w b vs.toArray)
    (h : wpAnyH P .any ops Q S fuel (listed.setIfInBounds i true) (a.put oi.dst (.agg vs.toArray)) w) : wpAnyH P .any ops Q S (fuel + 1) listed a w :=
  wpAnyH_take hi hs hf hr hQ (.inl ⟨hw, fun w hC => by
    unfold execOp
    simp only [ho, hx, Instr.loadAt, Instr.sureAddr, Sem.run_bind, Sem.run_pure, Result.andThen_ok, row_loadVar hT w hl (hB w hC)]⟩) hS h
theorem wpH_load (i : Nat) (u : Value) (hi : ops[i]? = some oi) (hs : Region.noSelect ops = true) (hf : Region.free .any ops listed i = true) (hr : (Region.ready .any ops listed).contains i = true)
    (hw : Region.wanted oi (yielded ops a.tmps) = true) (hS : S w) (hQ : ∀ c a w, Q (.panic c) (a.put oi.dst u) w → Q (.panic c) a w) (hv : ∀ w, S w → (execOp a.eval oi).run P w = .ok (.value u) w)
    (h : wpAnyH P .any ops Q S fuel (listed.setIfInBounds i true) (a.put oi.dst u) w) : wpAnyH P .any ops Q S (fuel + 1) listed a w :=
  wpAnyH_take hi hs hf hr hQ (.inl ⟨hw, hv⟩) hS h
theorem wpH_call (i : Nat) (hi : ops[i]? = some oi) (hr : Region.ready .any ops listed = [i]) (hw : Region.wanted oi (yielded ops a.tmps) = true) {f : FuncId} {args : Array Value} {R : Ending → World → Prop} (hc : Calls P f args w R)
    (hv : (execOp a.eval oi).run P w = .ok (.enter f args) w)
    (h : ∀ e w', R e w' → ∃ v, e = .returned v ∧ S w' ∧ wpAnyH P .any ops Q S fuel (listed.setIfInBounds i true) (a.put oi.dst v) w') : wpAnyH P .any ops Q S (fuel + 1) listed a w := by
  refine wpAnyH_all hr (by simp) (fun j hj => ?_)
  obtain rfl : j = i := by simpa using hj
  unfold wpOp
  simp only [hi, hw, if_true]
  refine .inl ?_
  unfold Oper.wp
  rw [hv, Oper.upon_enter]
  refine hc.mono fun e w' hR => ?_
  obtain ⟨v, rfl, h1, h2⟩ := h e w' hR
  exact ⟨h1, h2⟩
theorem wpH_op (i : Nat) (hi : ops[i]? = some oi) (hr : Region.ready .any ops listed = [i]) (hw : Region.wanted oi (yielded ops a.tmps) = true)
    (h : oi.wp P a w (fun a' w' => S w' ∧ wpAnyH P .any ops Q S fuel (listed.setIfInBounds i true) a' w') Q) : wpAnyH P .any ops Q S (fuel + 1) listed a w := by
  refine wpAnyH_all hr (by simp) (fun j hj => ?_)
  obtain rfl : j = i := by simpa using hj
  unfold wpOp
  simp only [hi, hw, if_true]
  exact .inl h
end
theorem wpH_start {P : Program} {id : Nat} {ops : Array Oper} {Q : Exit → Act → World → Prop} {a : Act} {w : World} (hm : P.follows .mixedOrders = true)
    (h : Below w.heap.size w w.drew → wpAnyH P .any ops Q (Below w.heap.size w) ops.size (Array.replicate ops.size false) a w.drew) : (Code.region id ops true).wp P Q a w :=
  wp_region_held_drew hm (Below.refl _ _).drew h

theorem wpH_startM {P : Program} {id : Nat} {ops : Array Oper} {Q : Exit → Act → World → Prop} {a : Act} {w : World} (l : List Nat) (hm : P.follows .mixedOrders = true)
    (h : Mod l w w.drew → wpAnyH P .any ops Q (Mod l w) ops.size (Array.replicate ops.size false) a w.drew) : (Code.region id ops true).wp P Q a w :=
  wp_region_held_drew hm (Mod.refl _ _).drew h

end Go.Proofs.YtmldonbmjgelnaaDoor
