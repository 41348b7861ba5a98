/- Kit2, Sha, ShaB, Bs. -/
import Derived.Test.YthkpmlfaddlieaaGreatDoorChecked
import Derived.Lib.AppendStr
import Derived.Laws.AppendOwnNone
import Derived.Test.YthkpmlfaddlieaaGreatDoorMw4
set_option linter.unnecessarySimpa false
set_option linter.unusedSimpArgs false
set_option linter.unusedVariables false
set_option maxRecDepth 100000
set_option maxHeartbeats 32000000
namespace Go.Proofs.YthkpmlfaddlieaaGreatDoor
open Go.RowKit
theorem wp_tail {P : Program} {id : Nat} {Q : Exit → Act → World → Prop} {a : Act} {w : World} {l : List Oper} (n : Nat) (hm : P.follows .mixedOrders = true) (hB : Region.lexTailB .any l.toArray n = true)
  (h : ∀ w2, w2 = w.drew → wpStill P l.toArray w2 (fun a' => wpList P l.toArray Q (l.drop n) a' w2) (l.take n) a) : (Code.region id l.toArray true).wp P Q a w :=
 wp_region_still_tail n hm hB (h _ rfl)
structure RowT (P : Program) (T : TypeId) (n : Nat) : Prop where
 und : ∃ d, P.underlying T = some d ∧ d.isRow = true
 size : (P.info? T).map (·.size) = some n
theorem RowT.mk' {P : Program} {T : TypeId} {n : Nat} {d : TypeDesc} (h : P.underlying T = some d) (hd : d.isRow = true) (hs : (P.info? T).map (·.size) = some n) : RowT P T n := ⟨⟨d, h, hd⟩, hs⟩
theorem Blk.range {w : World} {b : Nat} {vs : List Value} (h : Blk w b vs.toArray) : w.rangeAt b 0 vs := by
 intro j v hv
 rw [Nat.zero_add, h.cell j]
 simpa using hv
theorem Mod.setCellsL (b : Nat) : ∀ (vs : List Value) (o : Nat) (w : World), Mod [b] w (w.setCells b o vs)
 | [], _, w => Mod.refl _ _
 | v :: r, o, w => by
  rw [World.setCells]
  exact ((Mod.refl _ w).setCell (.inl (by simp)) v).trans (Mod.setCellsL b r (o + 1) _)
section
variable {P : Program} {T : TypeId} {n : Nat} {ops : Array Oper} {rest : List Oper} {op : Oper} {a : Act} {w : World} {Q : Exit → Act → World → Prop}
theorem wpList_rowLoad (hT : RowT P T n) (hgd : op.guard = none) (x : Operand) (ho : op.op = .load T x) {b : Nat} (hx : a.eval x = .pointer (some ⟨b, 0, none⟩)) {vs : List Value} (hl : vs.length = n) (hB : Blk w b vs.toArray)
  (h : wpList P ops Q rest (a.put op.dst (.agg vs.toArray)) w) : wpList P ops Q (op :: rest) a w := by
 obtain ⟨⟨d, h1, h2⟩, h3⟩ := hT
 exact wpList_load_mid hgd T x ho b 0 hx vs d hB.range h1 h2 (by rw [hl]; exact h3) h
theorem wpList_rowStore (hT : RowT P T n) (hgd : op.guard = none) (hd : op.dst = none) (x y : Operand) (ho : op.op = .store T x y) {b : Nat} (hx : a.eval x = .pointer (some ⟨b, 0, none⟩)) {vs : List Value} (hy : a.eval y = .agg vs.toArray) (hl : vs.length = n) (h1 : ∀ v ∈ vs, v.oneCell' = true)
  {us : List Value} (hlu : us.length = n) (hB : Blk w b us.toArray)
  (h : ∀ w', Blk w' b vs.toArray → Mod [b] w w' → wpList P ops Q rest a w') : wpList P ops Q (op :: rest) a w := by
 obtain ⟨_, h3⟩ := hT
 have ht : w.there b 0 vs.length := fun j hj => by
  rw [Nat.zero_add, hB.cell, hB.froz]
  simp; omega
 refine wpList_store_mid hgd T x y ho b 0 _ hx hy (by simpa using ht) (by simp [hl, h3]) (all_oneCell_toArray h1) ?_
 rw [hd]
 refine h _ ⟨fun o => ?_, fun o => by rw [World.frozen?_setCells]; exact hB.froz o, ?_⟩ (Mod.setCellsL b _ 0 w)
 ·by_cases ho : o < vs.length
  ·have := World.cell?_setCells_in b vs 0 w (fun i hi => (ht i hi).1) o ho
   rw [Nat.zero_add] at this
   simp only [List.getElem?_toArray]
   rw [List.getElem?_eq_getElem ho]
   exact this
  ·rw [World.cell?_setCells_out b _ 0 w _ (fun _ _ => .inr (by simp at ho ⊢; omega)), hB.cell]
   simp at ho ⊢
   rw [List.getElem?_eq_none (by omega), List.getElem?_eq_none (by omega)]
 ·exact Nat.lt_of_lt_of_le hB.lt (Mod.setCellsL b _ 0 w).size
theorem row_loadVar (hT : RowT P T n) (w : World) {b : Nat} {vs : List Value} (hl : vs.length = n) (hB : Blk w b vs.toArray) : (loadVar T ⟨b, 0, none⟩).run P w = .ok (.agg vs.toArray) w := by
 obtain ⟨⟨d, h1, h2⟩, h3⟩ := hT
 exact run_loadVar_mid w b 0 T vs d hB.range h1 h2 (by rw [hl]; exact h3)
end
theorem Below.name {B : Nat} {a w : World} (_ : Below B a w) : ∃ w' : World, w' = w := ⟨w, rfl⟩
theorem results_cell1 {P : Program} {fn : Func} {a : Nat} {t : TypeId} (h : fn.results = #[.cell a t]) (tmps : Array Value) (w : World) (p : Addr) (v : Value) (hp : tmps.getD a undef = .pointer (some p)) (hl : (loadVar t p).run P w = .ok v w) :
  (results fn tmps).run P w = .ok v w := by
 unfold results
 rw [h]
 rw [Array.getD_eq_getD_getElem?] at hp
 simp [hp, asAddr, hl, Sem.run_bind]
theorem quietD {P : Program} {f : FuncId} {args : Array Value} {w : World} {a n : Nat} {v : Value} (h : ∀ W : World, Calls P f args W fun e w' => e = .returned v ∧ W = w') :
  Calls P f args (w.drewN (a + n)) fun e w'' => e = .returned v ∧ ∃ k, w'' = w.drewN (a + k) :=
 (h _).mono fun _ _ ⟨he, hw⟩ => ⟨he, n, hw.symm⟩
section
variable {P : Program} {ops : Array Oper} {C : World → Prop} {Q : Act → Prop} {o : Oper} {rest : List Oper} {a : Act}
theorem wpQ_skip (hw : Region.wanted o (yielded ops a.tmps) = false) (h : wpQuiet P ops C Q rest (a.put o.dst undef)) : wpQuiet P ops C Q (o :: rest) a := by
 unfold wpQuiet
 rw [if_neg (by rw [hw]; simp)]
 exact h
theorem wpQ_load (hw : Region.wanted o (yielded ops a.tmps) = true) (u : Value) (hv : ∀ w, C w → (execOp a.eval o).run P w = .ok (.value u) w) (h : wpQuiet P ops C Q rest (a.put o.dst u)) : wpQuiet P ops C Q (o :: rest) a := by
 unfold wpQuiet
 rw [if_pos hw]
 exact ⟨u, fun w hC => by unfold Oper.quietAt; rw [hv w hC]; exact ⟨rfl, rfl⟩, h⟩
theorem wpQ_pure (hw : Region.wanted o (yielded ops a.tmps) = true) (u : Value) (hv : ∀ w, (execOp a.eval o).run P w = .ok (.value u) w) (h : wpQuiet P ops C Q rest (a.put o.dst u)) : wpQuiet P ops C Q (o :: rest) a :=
 wpQ_load hw u (fun w _ => hv w) h
theorem wpQ_call (hw : Region.wanted o (yielded ops a.tmps) = true) (f : FuncId) (args : Array Value) (v : Value) (hc : ∀ w, C w → Calls P f args w fun e w' => e = .returned v ∧ C w') (hv : ∀ w, (execOp a.eval o).run P w = .ok (.enter f args) w)
  (h : wpQuiet P ops C Q rest (a.put o.dst v)) : wpQuiet P ops C Q (o :: rest) a := by
 unfold wpQuiet
 rw [if_pos hw]
 exact ⟨v, fun w hC => by unfold Oper.quietAt; rw [hv w]; exact ⟨rfl, hc w hC⟩, h⟩
theorem wpQ_row {T : TypeId} {n : Nat} (hT : RowT P T n) (hw : Region.wanted o (yielded ops a.tmps) = true) (x : Operand) (ho : o.op = .load T x) {b : Nat} (hx : a.eval x = .pointer (some ⟨b, 0, none⟩)) {vs : List Value} (hl : vs.length = n) (hB : ∀ w, C w → Blk w b vs.toArray)
  (h : wpQuiet P ops C Q rest (a.put o.dst (.agg vs.toArray))) : wpQuiet P ops C Q (o :: rest) a :=
 wpQ_load hw _ (fun w hC => by
  unfold execOp
  simp only [ho, hx, Instr.loadAt, Instr.sureAddr, Sem.run_bind, Sem.run_pure, Result.andThen_ok, row_loadVar hT w hl (hB w hC)]) h
end
theorem wp_held {P : Program} {id : Nat} {Q : Exit → Act → World → Prop} {a : Act} {w : World} {l : List Oper} (hm : P.follows .mixedOrders = true) (hB : Region.lexB .any l.toArray = true)
  (h : wpQuiet P l.toArray (Below w.heap.size w) (fun a' => ∀ w', Below w.heap.size w w' → Q .normal a' w') l a) : (Code.region id l.toArray true).wp P Q a w :=
 wp_region_quiet (C := Below w.heap.size w) hm hB (Below.refl _ _).drew (by simpa using h)
theorem callB {P : Program} {W : World} {f : FuncId} {args : Array Value} {v : Value} (h : ∀ w, Calls P f args w fun e w' => e = .returned v ∧ Below w.heap.size w w') :
  ∀ w, Below W.heap.size W w → Calls P f args w fun e w' => e = .returned v ∧ Below W.heap.size W w' :=
 fun w hb => (h w).mono fun _ _ ⟨he, hb2⟩ => ⟨he, hb.trans (hb2.mono hb.size)⟩
theorem callS {P : Program} {W : World} {f : FuncId} {args : Array Value} {v : Value} (h : ∀ w, Below W.heap.size W w → Calls P f args w fun e w' => e = .returned v ∧ w = w') :
  ∀ w, Below W.heap.size W w → Calls P f args w fun e w' => e = .returned v ∧ Below W.heap.size W w' :=
 fun w hb => (h w hb).mono fun _ _ ⟨he, hb2⟩ => ⟨he, hb2 ▸ hb⟩
theorem callD {P : Program} {W : World} {f : FuncId} {args : Array Value} {v : Value} (h : ∀ w, Below W.heap.size W w → Calls P f args w fun e w' => e = .returned v ∧ ∃ n, w' = w.drewN n) :
  ∀ w, Below W.heap.size W w → Calls P f args w fun e w' => e = .returned v ∧ Below W.heap.size W w' :=
 fun w hb => (h w hb).mono fun _ _ ⟨he, n, hb2⟩ => ⟨he, hb2 ▸ below_drewN hb n⟩
section
variable {P : Program} {ops : Array Oper} {S : World → Prop} {Q : Exit → Act → World → Prop} {fuel : Nat} {listed : Array Bool} {a : Act} {w : World} {oi : Oper}
theorem wpH_pure (i : Nat) (u : Value) (hi : ops[i]? = some oi) (hs : Region.noSelect ops = true) (hf : Region.free .any ops listed i = true) (hr : (Region.ready .any ops listed).contains i = true)
  (hw : Region.wanted oi (yielded ops a.tmps) = true) (hS : S w) (hQ : ∀ c a w, Q (.panic c) (a.put oi.dst u) w → Q (.panic c) a w) (hv : ∀ w, (execOp a.eval oi).run P w = .ok (.value u) w)
  (h : wpAnyH P .any ops Q S fuel (listed.setIfInBounds i true) (a.put oi.dst u) w) : wpAnyH P .any ops Q S (fuel + 1) listed a w :=
 wpAnyH_take hi hs hf hr hQ (.inl ⟨hw, fun w _ => hv w⟩) hS h
theorem wpH_skip (i : Nat) (hi : ops[i]? = some oi) (hs : Region.noSelect ops = true) (hf : Region.free .any ops listed i = true) (hr : (Region.ready .any ops listed).contains i = true)
  (hw : Region.wanted oi (yielded ops a.tmps) = false) (hS : S w) (hQ : ∀ c a w, Q (.panic c) (a.put oi.dst undef) w → Q (.panic c) a w)
  (h : wpAnyH P .any ops Q S fuel (listed.setIfInBounds i true) (a.put oi.dst undef) w) : wpAnyH P .any ops Q S (fuel + 1) listed a w :=
 wpAnyH_take hi hs hf hr hQ (.inr ⟨hw, rfl⟩) hS h
theorem wpH_row {T : TypeId} {n : Nat} (hT : RowT P T n) (i : Nat) (hi : ops[i]? = some oi) (hs : Region.noSelect ops = true) (hf : Region.free .any ops listed i = true) (hr : (Region.ready .any ops listed).contains i = true)
  (hw : Region.wanted oi (yielded ops a.tmps) = true) (hS : S w) {vs : List Value} (hQ : ∀ c a w, Q (.panic c) (a.put oi.dst (.agg vs.toArray)) w → Q (.panic c) a w) (x : Operand) (ho : oi.op = .load T x) {b : Nat} (hx : a.eval x = .pointer (some ⟨b, 0, none⟩)) (hl : vs.length = n) (hB : ∀ w, S w → Blk w b vs.toArray)
  (h : wpAnyH P .any ops Q S fuel (listed.setIfInBounds i true) (a.put oi.dst (.agg vs.toArray)) w) : wpAnyH P .any ops Q S (fuel + 1) listed a w :=
 wpAnyH_take hi hs hf hr hQ (.inl ⟨hw, fun w hC => by
  unfold execOp
  simp only [ho, hx, Instr.loadAt, Instr.sureAddr, Sem.run_bind, Sem.run_pure, Result.andThen_ok, row_loadVar hT w hl (hB w hC)]⟩) hS h
theorem wpH_load (i : Nat) (u : Value) (hi : ops[i]? = some oi) (hs : Region.noSelect ops = true) (hf : Region.free .any ops listed i = true) (hr : (Region.ready .any ops listed).contains i = true)
  (hw : Region.wanted oi (yielded ops a.tmps) = true) (hS : S w) (hQ : ∀ c a w, Q (.panic c) (a.put oi.dst u) w → Q (.panic c) a w) (hv : ∀ w, S w → (execOp a.eval oi).run P w = .ok (.value u) w)
  (h : wpAnyH P .any ops Q S fuel (listed.setIfInBounds i true) (a.put oi.dst u) w) : wpAnyH P .any ops Q S (fuel + 1) listed a w :=
 wpAnyH_take hi hs hf hr hQ (.inl ⟨hw, hv⟩) hS h
theorem wpH_call (i : Nat) (hi : ops[i]? = some oi) (hr : Region.ready .any ops listed = [i]) (hw : Region.wanted oi (yielded ops a.tmps) = true) {f : FuncId} {args : Array Value} {R : Ending → World → Prop} (hc : Calls P f args w R)
  (hv : (execOp a.eval oi).run P w = .ok (.enter f args) w)
  (h : ∀ e w', R e w' → ∃ v, e = .returned v ∧ S w' ∧ wpAnyH P .any ops Q S fuel (listed.setIfInBounds i true) (a.put oi.dst v) w') : wpAnyH P .any ops Q S (fuel + 1) listed a w := by
 refine wpAnyH_all hr (by simp) (fun j hj => ?_)
 obtain rfl : j = i := by simpa using hj
 unfold wpOp
 simp only [hi, hw, if_true]
 refine .inl ?_
 unfold Oper.wp
 rw [hv, Oper.upon_enter]
 refine hc.mono fun e w' hR => ?_
 obtain ⟨v, rfl, h1, h2⟩ := h e w' hR
 exact ⟨h1, h2⟩
theorem wpH_op (i : Nat) (hi : ops[i]? = some oi) (hr : Region.ready .any ops listed = [i]) (hw : Region.wanted oi (yielded ops a.tmps) = true)
  (h : oi.wp P a w (fun a' w' => S w' ∧ wpAnyH P .any ops Q S fuel (listed.setIfInBounds i true) a' w') Q) : wpAnyH P .any ops Q S (fuel + 1) listed a w := by
 refine wpAnyH_all hr (by simp) (fun j hj => ?_)
 obtain rfl : j = i := by simpa using hj
 unfold wpOp
 simp only [hi, hw, if_true]
 exact .inl h
end
theorem wpH_start {P : Program} {id : Nat} {ops : Array Oper} {Q : Exit → Act → World → Prop} {a : Act} {w : World} (hm : P.follows .mixedOrders = true)
  (h : Below w.heap.size w w.drew → wpAnyH P .any ops Q (Below w.heap.size w) ops.size (Array.replicate ops.size false) a w.drew) : (Code.region id ops true).wp P Q a w :=
 wp_region_held_drew hm (Below.refl _ _).drew h
theorem wpH_startM {P : Program} {id : Nat} {ops : Array Oper} {Q : Exit → Act → World → Prop} {a : Act} {w : World} (l : List Nat) (hm : P.follows .mixedOrders = true)
  (h : Mod l w w.drew → wpAnyH P .any ops Q (Mod l w) ops.size (Array.replicate ops.size false) a w.drew) : (Code.region id ops true).wp P Q a w :=
 wp_region_held_drew hm (Mod.refl _ _).drew h
theorem pna (a : Act) (d : Nat) (v : Value) : a.put (some d) v = { a with tmps := a.tmps.setIfInBounds d v } := rfl
theorem pnb (a : Act) (v : Value) : a.put none v = a := rfl
theorem pnc {α : Type} (xs : List α) (i : Nat) (x : α) : xs.toArray.setIfInBounds i x = (xs.set i x).toArray := by simp
theorem pnd {α : Type} (y : α) (r : List α) (x : α) : (y :: r).set 0 x = x :: r := rfl
theorem pne {α : Type} (y : α) (r : List α) (i : Nat) (x : α) : (y :: r).set (i + 1) x = y :: r.set i x := rfl
abbrev ztL : List Value := [.int .i64 (0), .int .i64 (0), .int .i64 (0), .bool false, .string ⟨List.toArray ([])⟩, .string ⟨List.toArray ([])⟩, .string ⟨List.toArray ([])⟩, .string ⟨List.toArray ([])⟩, .string ⟨List.toArray ([])⟩, .string ⟨List.toArray ([])⟩, .slice none 0 0, .slice none 0 0, .int .i64 (0)]
abbrev ztA : Array Value := #[.int .i64 (0), .int .i64 (0), .int .i64 (0), .bool false, .string ⟨List.toArray ([])⟩, .string ⟨List.toArray ([])⟩, .string ⟨List.toArray ([])⟩, .string ⟨List.toArray ([])⟩, .string ⟨List.toArray ([])⟩, .string ⟨List.toArray ([])⟩, .slice none 0 0, .slice none 0 0, .int .i64 (0)]
def bareO (o : Oper) : Oper := { o with pos := "", after := #[] }
theorem exec_bare (r : Operand → Value) (o : Oper) : execOp r (bareO o) = execOp r o := rfl
theorem bare_at {ops : Array Oper} {i : Nat} {oi : Oper} (h : (ops[i]?).map bareO = some oi) : ∃ o, ops[i]? = some o ∧ bareO o = oi := by
 cases hh : ops[i]? with
 | none => rw [hh] at h; cases h
 | some o => rw [hh] at h; injection h with h; exact ⟨o, rfl, h⟩
section
variable {P : Program} {ops : Array Oper} {S : World → Prop} {Q : Exit → Act → World → Prop} {fuel : Nat} {listed : Array Bool} {a : Act} {w : World}
theorem hP (i : Nat) (u : Value) (oi : Oper) (hS : S w) (hv : ∀ w, (execOp a.eval oi).run P w = .ok (.value u) w)
  (h : wpAnyH P .any ops Q S fuel (listed.setIfInBounds i true) (a.put oi.dst u) w) (hi : (ops[i]?).map bareO = some oi := by rfl) (hs : Region.noSelect ops = true := by kernel_rfl) (hf : Region.free .any ops listed i = true := by kernel_rfl) (hr : (Region.ready .any ops listed).contains i = true := by kernel_rfl)
  (hw : Region.wanted oi (yielded ops a.tmps) = true := by rfl) (hQ : ∀ c a w, Q (.panic c) (a.put oi.dst u) w → Q (.panic c) a w := by exact fun _ _ _ h => h) : wpAnyH P .any ops Q S (fuel + 1) listed a w := by
 obtain ⟨o, ho, rfl⟩ := bare_at hi
 exact wpH_pure i u ho hs hf hr hw hS hQ hv h
theorem qP {C : World → Prop} {R : Act → Prop} {o : Oper} {rest : List Oper} (u : Value) (hv : ∀ w, (execOp a.eval o).run P w = .ok (.value u) w) (h : wpQuiet P ops C R rest (a.put o.dst u)) (hw : Region.wanted o (yielded ops a.tmps) = true := by rfl) : wpQuiet P ops C R (o :: rest) a := wpQ_pure hw u hv h
theorem qN {C : World → Prop} {R : Act → Prop} {o : Oper} {rest : List Oper} (h : wpQuiet P ops C R rest (a.put o.dst undef)) (hw : Region.wanted o (yielded ops a.tmps) = false := by first | rfl | (go_simp; rfl)) : wpQuiet P ops C R (o :: rest) a := wpQ_skip hw h
theorem hN (i : Nat) (oi : Oper) (hS : S w) (h : wpAnyH P .any ops Q S fuel (listed.setIfInBounds i true) (a.put oi.dst undef) w) (hi : (ops[i]?).map bareO = some oi := by rfl) (hs : Region.noSelect ops = true := by kernel_rfl) (hf : Region.free .any ops listed i = true := by kernel_rfl) (hr : (Region.ready .any ops listed).contains i = true := by kernel_rfl)
  (hw : Region.wanted oi (yielded ops a.tmps) = false := by rfl) (hQ : ∀ c a w, Q (.panic c) (a.put oi.dst undef) w → Q (.panic c) a w := by exact fun _ _ _ h => h) : wpAnyH P .any ops Q S (fuel + 1) listed a w := by
 obtain ⟨o, ho, rfl⟩ := bare_at hi
 exact wpH_skip i ho hs hf hr hw hS hQ h
end
end Go.Proofs.YthkpmlfaddlieaaGreatDoor
namespace Go.Proofs.YthkpmlfaddlieaaGreatDoor
open Go.RowKit
theorem rot_any (x : Int) (n : Int) (hx : 0 ≤ x) (hx2 : x < 4294967296) (hn : 0 ≤ n) (hn2 : n ≤ 32) (w : World) :
  Calls Tryz.prog 177 #[.int .u32 x, .int .u64 n] w fun e w' => e = .returned (.int .u32 (rotI x n)) ∧ w = w' := by
 go_enter Tryz.func177, Tryz.ntmps177
 go_wp2_with fail
 go_ret
 exact ⟨rfl, rfl⟩
theorem turned_any (x : Int) (n : Int) (hx : 0 ≤ x) (hx2 : x < 4294967296) (hn : 0 ≤ n) (hn2 : n ≤ 32) (w : World) :
  Calls Tryz.prog 152 #[.int .u32 x, .int .i64 n] w fun e w' => e = .returned (.int .u32 (rotI x n)) ∧ w = w' := by
 go_enter Tryz.func152, Tryz.ntmps152
 go_wp2_with fail
 go_ret
 exact ⟨rfl, rfl⟩
theorem rot_st (x : Int) (n : Int) (hx : 0 ≤ x) (hx2 : x < 4294967296) (hn : 0 ≤ n) (hn2 : n ≤ 32) (w : World) :
  Calls Tryz.prog 177 #[.int .u32 x, .int .u64 n] w fun e w' => e = .returned (.int .u32 (rotI x n)) ∧ w' = w :=
 (rot_any x n hx hx2 hn hn2 w).mono fun _ _ ⟨h, h2⟩ => ⟨h, h2.symm⟩
theorem row64w : RowT Tryz.prog 245 64 := RowT.mk' Tryz.underlying245 rfl (by kernel_rfl)
theorem row64b : RowT Tryz.prog 191 64 := RowT.mk' Tryz.underlying191 rfl (by kernel_rfl)
theorem row8w : RowT Tryz.prog 189 8 := RowT.mk' Tryz.underlying189 rfl (by kernel_rfl)
theorem zero64w : (arr 64 fun _ => 0).toArray = #[Value.int .u32 0, Value.int .u32 0, Value.int .u32 0, Value.int .u32 0, Value.int .u32 0, Value.int .u32 0, Value.int .u32 0, Value.int .u32 0, Value.int .u32 0, Value.int .u32 0, Value.int .u32 0, Value.int .u32 0, Value.int .u32 0, Value.int .u32 0, Value.int .u32 0, Value.int .u32 0, Value.int .u32 0, Value.int .u32 0, Value.int .u32 0, Value.int .u32 0, Value.int .u32 0, Value.int .u32 0, Value.int .u32 0, Value.int .u32 0, Value.int .u32 0, Value.int .u32 0, Value.int .u32 0, Value.int .u32 0, Value.int .u32 0, Value.int .u32 0, Value.int .u32 0, Value.int .u32 0, Value.int .u32 0, Value.int .u32 0, Value.int .u32 0, Value.int .u32 0, Value.int .u32 0, Value.int .u32 0, Value.int .u32 0, Value.int .u32 0, Value.int .u32 0, Value.int .u32 0, Value.int .u32 0, Value.int .u32 0, Value.int .u32 0, Value.int .u32 0, Value.int .u32 0, Value.int .u32 0, Value.int .u32 0, Value.int .u32 0, Value.int .u32 0, Value.int .u32 0, Value.int .u32 0, Value.int .u32 0, Value.int .u32 0, Value.int .u32 0, Value.int .u32 0, Value.int .u32 0, Value.int .u32 0, Value.int .u32 0, Value.int .u32 0, Value.int .u32 0, Value.int .u32 0, Value.int .u32 0] := rfl
def schTo (b : Nat → Int) (k : Nat) : Nat → Int := fun i => if i < k then sch b i else 0
theorem schTo_succ (b : Nat → Int) (k : Nat) : updI (schTo b k) k (sch b k) = schTo b (k + 1) := by
 funext i
 unfold updI schTo
 by_cases h : i = k
 ·subst h; rw [if_pos rfl, if_pos (by omega)]
 ·rw [if_neg h]
  by_cases h2 : i < k
  ·rw [if_pos h2, if_pos (by omega)]
  ·rw [if_neg h2, if_neg (by omega)]
theorem spread_any (b : Nat → Int) (hb : ∀ i, i < 64 → 0 ≤ b i ∧ b i < 256) (w : World) :
  Calls Tryz.prog 176 #[.agg (arb 64 b).toArray] w fun e w' => e = .returned (.agg (arr 64 (sch b)).toArray) ∧ Below w.heap.size w w' := by
 have HB := Lib.hid hb
 have HSB := Lib.hid (sch_bd b hb)
 clear hb
 go_enter Tryz.func176, Tryz.ntmps176
 go_wp2_with fail
 go_loopw [8] (fun s8 wr => ∃ k : Nat, k ≤ 16 ∧ s8 = .int .i64 k ∧ Blk wr w.heap.size (arb 64 b).toArray ∧ Blk wr (w.heap.size + 1) (arr 64 fun _ => 0).toArray ∧ Blk wr (w.heap.size + 1 + 1) (arr 64 (schTo b k)).toArray ∧ Below w.heap.size w wr) (fun s8 _ => 16 - (intOf s8).toNat)
 case atStart =>
  rw [zero64w]
  exact ⟨0, by omega, rfl, ((Blk.new w _ _).alloc _).alloc _, (Blk.new' (by simp)).alloc _, by rw [show schTo b 0 = fun _ => 0 from by funext i; simp [schTo], zero64w]; exact Blk.new' (by simp), by (repeat (first | exact Below.refl _ _ | assumption | apply Below.drew | apply below_drewN | apply Below.allocS | (refine Below.setCell ?_ (by simp <;> omega) _) | (refine Below.alloc ?_ (by simp <;> omega) _) | (refine Below.trans ?_ (Below.mono (by assumption) (by simp <;> omega)))))⟩
 case round =>
  obtain ⟨k, hk, rfl, B, Z, W, hb⟩ := hrel
  rename_i wr
  by_cases hlt : k < 16
  ·have b0 := HB.out (4 * k) (by omega)
   have b1 := HB.out (4 * k + 1) (by omega)
   have b2 := HB.out (4 * k + 2) (by omega)
   have b3 := HB.out (4 * k + 3) (by omega)
   have c0 := B.cell (4 * k)
   rw [arb_at 64 b _ (by omega)] at c0
   have c1 := B.cell (4 * k + 1)
   rw [arb_at 64 b _ (by omega)] at c1
   have c2 := B.cell (4 * k + 2)
   rw [arb_at 64 b _ (by omega)] at c2
   have c3 := B.cell (4 * k + 3)
   rw [arb_at 64 b _ (by omega)] at c3
   have d0 := W.cell k
   rw [arr_at 64 _ _ (by omega)] at d0
   have d1 := W.froz
   have t0 : (4 * (k : Int)).toNat = 4 * k := by omega
   have t1 : (4 * (k : Int) + 1).toNat = 4 * k + 1 := by omega
   have t2 : (4 * (k : Int) + 2).toNat = 4 * k + 2 := by omega
   have t3 : (4 * (k : Int) + 3).toNat = 4 * k + 3 := by omega
   have i0 : IntKind.i64.wrap (4 * (k : Int)) = 4 * (k : Int) := by rw [IntKind.wrap_i64]; omega
   have i1 : IntKind.i64.wrap (4 * (k : Int) + 1) = 4 * (k : Int) + 1 := by rw [IntKind.wrap_i64]; omega
   have i2 : IntKind.i64.wrap (4 * (k : Int) + 2) = 4 * (k : Int) + 2 := by rw [IntKind.wrap_i64]; omega
   have i3 : IntKind.i64.wrap (4 * (k : Int) + 3) = 4 * (k : Int) + 3 := by rw [IntKind.wrap_i64]; omega
   generalize hx0 : b (4 * k) = x0 at *
   generalize hx1 : b (4 * k + 1) = x1 at *
   generalize hx2 : b (4 * k + 2) = x2 at *
   generalize hx3 : b (4 * k + 3) = x3 at *
   have HX0 := Lib.hid hx0
   have HX1 := Lib.hid hx1
   have HX2 := Lib.hid hx2
   have HX3 := Lib.hid hx3
   clear hx0 hx1 hx2 hx3
   go_wp2_with fail
   go_region
   go_wp2_with fail
   have hw4 : bits .or .u32 (bits .or .u32 (bits .or .u32 (x0 * 16777216) (x1 * 65536)) (x2 * 256)) x3 = sch b k := by
    rw [or4 x0 x1 x2 x3 (by omega) (by omega) (by omega) (by omega), sch, dif_pos hlt, word4, HX0.out, HX1.out, HX2.out, HX3.out]
   have W1 := (W.set k (.int .u32 (sch b k))).drew
   rw [arr_set, schTo_succ] at W1
   rw [hw4]
   exact ⟨⟨k + 1, by omega, by go_num, (B.other (by simp <;> omega) _).drew, (Z.other (by simp <;> omega) _).drew, W1, (hb.setCell (by simp <;> omega) _).drew⟩, by simp [intOf]; omega⟩
  ·have hke : k = 16 := by omega
   subst hke
   rw [show ((16 : Nat) : Int) = 16 from rfl]
   go_wp2_with fail
   go_loopw [5] (fun s5 wr => ∃ k : Nat, 16 ≤ k ∧ k ≤ 64 ∧ s5 = .int .i64 k ∧ Blk wr (w.heap.size + 1) (arr 64 fun _ => 0).toArray ∧ Blk wr (w.heap.size + 1 + 1) (arr 64 (schTo b k)).toArray ∧ Below w.heap.size w wr) (fun s5 _ => 64 - (intOf s5).toNat)
   case atStart => exact ⟨16, by omega, by omega, rfl, Z, W, hb⟩
   case round =>
    clear Z W hb B
    obtain ⟨k, hk0, hk, rfl, Z, W, hb⟩ := hrel
    rename_i wq
    by_cases hlt : k < 64
    ·have f0 : schTo b k (k - 16) = sch b (k - 16) := if_pos (by omega)
     have f1 : schTo b k (k - 15) = sch b (k - 15) := if_pos (by omega)
     have f2 : schTo b k (k - 7) = sch b (k - 7) := if_pos (by omega)
     have f3 : schTo b k (k - 2) = sch b (k - 2) := if_pos (by omega)
     have c0 := W.cell (k - 16)
     rw [arr_at 64 _ _ (by omega), f0] at c0
     have c1 := W.cell (k - 15)
     rw [arr_at 64 _ _ (by omega), f1] at c1
     have c2 := W.cell (k - 7)
     rw [arr_at 64 _ _ (by omega), f2] at c2
     have c3 := W.cell (k - 2)
     rw [arr_at 64 _ _ (by omega), f3] at c3
     have d0 := W.cell k
     rw [arr_at 64 _ _ (by omega)] at d0
     have d1 := W.froz
     have HS : Hid (sch b k = (sch b (k - 16) + sg0 (sch b (k - 15)) + sch b (k - 7) + sg1 (sch b (k - 2))) % 4294967296) := Lib.hid (by rw [sch, dif_neg (by omega)])
     obtain ⟨p0, p0'⟩ := HSB.out (k - 16)
     obtain ⟨p1, p1'⟩ := HSB.out (k - 15)
     obtain ⟨p2, p2'⟩ := HSB.out (k - 7)
     obtain ⟨p3, p3'⟩ := HSB.out (k - 2)
     have t0 : ((k : Int) - 16).toNat = k - 16 := by omega
     have t1 : ((k : Int) - 15).toNat = k - 15 := by omega
     have t2 : ((k : Int) - 7).toNat = k - 7 := by omega
     have t3 : ((k : Int) - 2).toNat = k - 2 := by omega
     have i0 : IntKind.i64.wrap ((k : Int) - 16) = (k : Int) - 16 := by rw [IntKind.wrap_i64]; omega
     have i1 : IntKind.i64.wrap ((k : Int) - 15) = (k : Int) - 15 := by rw [IntKind.wrap_i64]; omega
     have i2 : IntKind.i64.wrap ((k : Int) - 7) = (k : Int) - 7 := by rw [IntKind.wrap_i64]; omega
     have i3 : IntKind.i64.wrap ((k : Int) - 2) = (k : Int) - 2 := by rw [IntKind.wrap_i64]; omega
     have G0 := Lib.hid f0
     have G2 := Lib.hid f2
     clear f0 f1 f2 f3
     generalize sch b (k - 16) = x0 at *
     generalize sch b (k - 15) = x1 at *
     generalize sch b (k - 7) = x2 at *
     generalize sch b (k - 2) = x3 at *
     go_wp2_with fail
     go_quiet (fail)
     go_wp2_with fail
     refine wp_tail 29 (by kernel_rfl) (by kernel_rfl) ?_
     intro w2 hw2
     have W2 : Blk w2 (w.heap.size + 1 + 1) (arr 64 (schTo b k)).toArray := by rw [hw2]; exact (W.drewN _).drew
     have Z2 : Blk w2 (w.heap.size + 1) (arr 64 fun _ => 0).toArray := by rw [hw2]; exact (Z.drewN _).drew
     have hb2 : Below w.heap.size w w2 := by rw [hw2]; exact (below_drewN hb _).drew
     clear hw2 W Z hb c0 c1 c2 c3 d0 d1
     have c0 := W2.cell (k - 16)
     rw [arr_at 64 _ _ (by omega), G0.out] at c0
     have c2 := W2.cell (k - 7)
     rw [arr_at 64 _ _ (by omega), G2.out] at c2
     have d0 := W2.cell k
     rw [arr_at 64 _ _ (by omega)] at d0
     have d1 := W2.froz
     simp only [List.take_succ_cons, List.take_zero, List.drop_succ_cons, List.drop_zero]
     have q0 : (16 : Int) ≤ (k : Int) := by omega
     have q1 : (k : Int) - 16 < 64 := by omega
     have q2 : (7 : Int) ≤ (k : Int) := by omega
     have q3 : (k : Int) - 7 < 64 := by omega
     have q4 : (k : Int) < 64 := by omega
     repeat (first | still_step | still_call (rot_st _ _ (by omega) (by omega) (by omega) (by omega) _))
     refine wpStill_nil ?_
     go_wp2_with fail
     have W3 := W2.set k (.int .u32 (sch b k))
     rw [arr_set, schTo_succ] at W3
     rw [HS.out] at W3
     exact ⟨⟨k + 1, by omega, by omega, by go_num, Z2.other (by simp <;> omega) _, W3, hb2.setCell (by simp <;> omega) _⟩, by simp [intOf]; omega⟩
    ·have hke : k = 64 := by omega
     subst hke
     have hse : arr 64 (schTo b 64) = arr 64 (sch b) := arr_ext (fun i hi => if_pos hi)
     rw [hse] at W
     rw [zero64w] at Z
     go_wp2_with (first
      | (refine wpList_rowLoad row64w rfl (.tmp 3) rfl rfl (arr_len 64 _) W ?_)
      | (refine wpList_rowStore row64w rfl rfl (.tmp 2) (.tmp 84) rfl rfl rfl (arr_len 64 _) (arr_one 64 _) (by simp) Z ?_; intro w3 Z3 m3))
     refine bodyPost_ret (results_cell1 rfl _ _ _ _ rfl (row_loadVar row64w _ (arr_len 64 _) Z3)) rfl ?_
     exact ⟨rfl, Below.mod hb m3 (by have := hb.size; omega) (by simp)⟩
end Go.Proofs.YthkpmlfaddlieaaGreatDoor
namespace Go.Proofs.YthkpmlfaddlieaaGreatDoor
open Go.RowKit
def kList : List Int := [0x428a2f98, 0x71374491, 0xb5c0fbcf, 0xe9b5dba5, 0x3956c25b, 0x59f111f1, 0x923f82a4, 0xab1c5ed5,
 0xd807aa98, 0x12835b01, 0x243185be, 0x550c7dc3, 0x72be5d74, 0x80deb1fe, 0x9bdc06a7, 0xc19bf174,
 0xe49b69c1, 0xefbe4786, 0x0fc19dc6, 0x240ca1cc, 0x2de92c6f, 0x4a7484aa, 0x5cb0a9dc, 0x76f988da,
 0x983e5152, 0xa831c66d, 0xb00327c8, 0xbf597fc7, 0xc6e00bf3, 0xd5a79147, 0x06ca6351, 0x14292967,
 0x27b70a85, 0x2e1b2138, 0x4d2c6dfc, 0x53380d13, 0x650a7354, 0x766a0abb, 0x81c2c92e, 0x92722c85,
 0xa2bfe8a1, 0xa81a664b, 0xc24b8b70, 0xc76c51a3, 0xd192e819, 0xd6990624, 0xf40e3585, 0x106aa070,
 0x19a4c116, 0x1e376c08, 0x2748774c, 0x34b0bcb5, 0x391c0cb3, 0x4ed8aa4a, 0x5b9cca4f, 0x682e6ff3,
 0x748f82ee, 0x78a5636f, 0x84c87814, 0x8cc70208, 0x90befffa, 0xa4506ceb, 0xbef9a3f7, 0xc67178f2]
def kc (i : Nat) : Int := kList.getD i 0
theorem kc_bd (i : Nat) : W32 (kc i) := by
 by_cases h : i < 64
 ·have : ∀ i : Fin 64, 0 ≤ kc i.1 ∧ kc i.1 < 4294967296 := by decide +kernel
  exact this ⟨i, h⟩
 ·unfold kc
  rw [List.getD_eq_getElem?_getD, List.getElem?_eq_none (by simp [kList]; omega)]
  exact ⟨by decide, by decide⟩
structure KT (w : World) : Prop where
 cell : ∀ i, i < 64 → w.cell? ⟨1, i, none⟩ = some (.int .u32 (kc i))
 lt : 1 < w.heap.size
theorem KT.keep {W w : World} (h : KT W) (hb : Below W.heap.size W w) : KT w :=
 ⟨fun i hi => (hb.cell (p := ⟨1, i, none⟩) h.lt).trans (h.cell i hi), Nat.lt_of_lt_of_le h.lt hb.size⟩
theorem zero8w : (arr 8 fun _ => 0).toArray = #[Value.int .u32 0, Value.int .u32 0, Value.int .u32 0, Value.int .u32 0, Value.int .u32 0, Value.int .u32 0, Value.int .u32 0, Value.int .u32 0] := rfl
def chI (e f g : Int) : Int := bits .xor .u32 (bits .and .u32 e f) (bits .and .u32 (bits .xor .u32 IntKind.u32.max e) g)
def majI (a b c : Int) : Int := bits .xor .u32 (bits .xor .u32 (bits .and .u32 a b) (bits .and .u32 a c)) (bits .and .u32 b c)
def rnd (k w : Int) (v : Nat → Int) : Nat → Int
 | 0 => (v 7 + bS1 (v 4) + chI (v 4) (v 5) (v 6) + k + w + (bS0 (v 0) + majI (v 0) (v 1) (v 2))) % 4294967296
 | 1 => v 0
 | 2 => v 1
 | 3 => v 2
 | 4 => (v 3 + (v 7 + bS1 (v 4) + chI (v 4) (v 5) (v 6) + k + w)) % 4294967296
 | 5 => v 4
 | 6 => v 5
 | 7 => v 6
 | _ => 0
def rds (h b : Nat → Int) : Nat → Nat → Int
 | 0 => h
 | n + 1 => rnd (kc n) (sch b n) (rds h b n)
theorem mod_bd (x : Int) : W32 (x % 4294967296) := ⟨Int.emod_nonneg _ (by omega), Int.emod_lt_of_pos _ (by omega)⟩
theorem rnd_bd (k w : Int) (v : Nat → Int) (hv : ∀ i, W32 (v i)) (i : Nat) : W32 (rnd k w v i) := by
 unfold rnd
 split <;> first | exact mod_bd _ | exact hv _ | exact ⟨by omega, by omega⟩
theorem rds_bd (h b : Nat → Int) (hh : ∀ i, W32 (h i)) (n : Nat) : ∀ i, W32 (rds h b n i) := by
 induction n with
 | zero => exact hh
 | succ n ih => exact rnd_bd _ _ _ ih
def blk (h b : Nat → Int) (i : Nat) : Int := (rds h b 64 i + h i) % 4294967296
theorem blk_bd (h b : Nat → Int) (i : Nat) : W32 (blk h b i) := mod_bd _
def blkTo (h b : Nat → Int) (k : Nat) (i : Nat) : Int := if i < k then blk h b i else rds h b 64 i
theorem blkTo_succ (h b : Nat → Int) (k : Nat) : updI (blkTo h b k) k (blk h b k) = blkTo h b (k + 1) := by
 funext i
 unfold updI blkTo
 by_cases e : i = k
 ·subst e; rw [if_pos rfl, if_pos (by omega)]
 ·rw [if_neg e]
  by_cases h2 : i < k
  ·rw [if_pos h2, if_pos (by omega)]
  ·rw [if_neg h2, if_neg (by omega)]
theorem block_any (g b : Nat → Int) (hh : ∀ i, W32 (g i)) (hb : ∀ i, i < 64 → 0 ≤ b i ∧ b i < 256) (w : World) (hk0 : KT w) :
  Calls Tryz.prog 169 #[.agg (arr 8 g).toArray, .agg (arb 64 b).toArray] w fun e w' => e = .returned (.agg (arr 8 (blk g b)).toArray) ∧ Below w.heap.size w w' := by
 have HB := Lib.hid hb
 have HH := Lib.hid hh
 clear hb hh
 have HW := Lib.hid (sch_bd b HB.out)
 have H0 := (Blk.new w (arr 8 g).toArray 189).alloc (.cells (arb 64 b).toArray 191)
 have B0 : Blk ((w.alloc (.cells (arr 8 g).toArray 189)).alloc (.cells (arb 64 b).toArray 191)) (w.heap.size + 1) (arb 64 b).toArray := Blk.new' (by simp)
 go_enter Tryz.func169, Tryz.ntmps169
 have B1 := B0.alloc (.cells #[Value.int .u32 0, Value.int .u32 0, Value.int .u32 0, Value.int .u32 0, Value.int .u32 0, Value.int .u32 0, Value.int .u32 0, Value.int .u32 0] 189)
 go_wp2_with (refine wpList_rowLoad row64b rfl (.tmp 3) rfl rfl (arb_len 64 _) B1 ?_)
 refine (spread_any b HB.out _).mono ?_
 rintro e w1 ⟨rfl, hb1⟩
 have H1 := (H0.alloc (.cells #[Value.int .u32 0, Value.int .u32 0, Value.int .u32 0, Value.int .u32 0, Value.int .u32 0, Value.int .u32 0, Value.int .u32 0, Value.int .u32 0] 189)).keep hb1
 have hb2 : Below w.heap.size w w1 := (Below.allocS (Below.allocS (Below.allocS (Below.refl _ w) (.cells (arr 8 g).toArray 189)) (.cells (arb 64 b).toArray 191)) (.cells #[Value.int .u32 0, Value.int .u32 0, Value.int .u32 0, Value.int .u32 0, Value.int .u32 0, Value.int .u32 0, Value.int .u32 0, Value.int .u32 0] 189)).trans (hb1.mono (by simp; omega))
 have R1 : Blk w1 (w.heap.size + 1 + 1) (arr 8 fun _ => 0).toArray := by rw [zero8w]; exact (Blk.new' (by simp)).keep hb1
 have hs1 : w.heap.size + 1 + 1 < w1.heap.size := R1.lt
 clear H0 B0 B1 hb1
 go_wp2_with (first
  | (refine wpList_rowStore row64w rfl rfl (.tmp 5) (.tmp 14) rfl rfl rfl (arr_len 64 _) (arr_one 64 _) (us := (arr 64 fun _ => 0)) (by simp) (by rw [zero64w]; exact Blk.new' (by simp)) ?_; intro w2 S2 m2; have H2 := (H1.alloc _).mod m2 (by simp; omega))
  | (refine wpList_rowLoad row8w rfl (.tmp 2) rfl rfl (arr_len 8 g) (by assumption) ?_)
  | (refine wpList_rowStore row8w rfl rfl (.tmp 6) (.tmp 15) rfl rfl rfl (arr_len 8 _) (arr_one 8 _) (us := (arr 8 fun _ => 0)) (by simp) (by rw [zero8w]; exact Blk.new' (by simp)) ?_; intro w3 V3 m3))
 have R3 := ((R1.alloc (.cells #[Value.int .u32 0, Value.int .u32 0, Value.int .u32 0, Value.int .u32 0, Value.int .u32 0, Value.int .u32 0, Value.int .u32 0, Value.int .u32 0, Value.int .u32 0, Value.int .u32 0, Value.int .u32 0, Value.int .u32 0, Value.int .u32 0, Value.int .u32 0, Value.int .u32 0, Value.int .u32 0, Value.int .u32 0, Value.int .u32 0, Value.int .u32 0, Value.int .u32 0, Value.int .u32 0, Value.int .u32 0, Value.int .u32 0, Value.int .u32 0, Value.int .u32 0, Value.int .u32 0, Value.int .u32 0, Value.int .u32 0, Value.int .u32 0, Value.int .u32 0, Value.int .u32 0, Value.int .u32 0, Value.int .u32 0, Value.int .u32 0, Value.int .u32 0, Value.int .u32 0, Value.int .u32 0, Value.int .u32 0, Value.int .u32 0, Value.int .u32 0, Value.int .u32 0, Value.int .u32 0, Value.int .u32 0, Value.int .u32 0, Value.int .u32 0, Value.int .u32 0, Value.int .u32 0, Value.int .u32 0, Value.int .u32 0, Value.int .u32 0, Value.int .u32 0, Value.int .u32 0, Value.int .u32 0, Value.int .u32 0, Value.int .u32 0, Value.int .u32 0, Value.int .u32 0, Value.int .u32 0, Value.int .u32 0, Value.int .u32 0, Value.int .u32 0, Value.int .u32 0, Value.int .u32 0, Value.int .u32 0] 245)).mod m2 (by simp; omega))
 have R4 := ((R3.alloc (.cells #[Value.int .u32 0, Value.int .u32 0, Value.int .u32 0, Value.int .u32 0, Value.int .u32 0, Value.int .u32 0, Value.int .u32 0, Value.int .u32 0] 189)).mod m3 (by simp; have := S2.lt; omega))
 have S4 := ((S2.alloc (.cells #[Value.int .u32 0, Value.int .u32 0, Value.int .u32 0, Value.int .u32 0, Value.int .u32 0, Value.int .u32 0, Value.int .u32 0, Value.int .u32 0] 189)).mod m3 (by simp; have := S2.lt; omega))
 have H4 := ((H2.alloc (.cells #[Value.int .u32 0, Value.int .u32 0, Value.int .u32 0, Value.int .u32 0, Value.int .u32 0, Value.int .u32 0, Value.int .u32 0, Value.int .u32 0] 189)).mod m3 (by simp; have := S2.lt; omega))
 have hb4 : Below w.heap.size w w3 := Below.mod (Below.allocS (Below.mod (Below.allocS hb2 (.cells #[Value.int .u32 0, Value.int .u32 0, Value.int .u32 0, Value.int .u32 0, Value.int .u32 0, Value.int .u32 0, Value.int .u32 0, Value.int .u32 0, Value.int .u32 0, Value.int .u32 0, Value.int .u32 0, Value.int .u32 0, Value.int .u32 0, Value.int .u32 0, Value.int .u32 0, Value.int .u32 0, Value.int .u32 0, Value.int .u32 0, Value.int .u32 0, Value.int .u32 0, Value.int .u32 0, Value.int .u32 0, Value.int .u32 0, Value.int .u32 0, Value.int .u32 0, Value.int .u32 0, Value.int .u32 0, Value.int .u32 0, Value.int .u32 0, Value.int .u32 0, Value.int .u32 0, Value.int .u32 0, Value.int .u32 0, Value.int .u32 0, Value.int .u32 0, Value.int .u32 0, Value.int .u32 0, Value.int .u32 0, Value.int .u32 0, Value.int .u32 0, Value.int .u32 0, Value.int .u32 0, Value.int .u32 0, Value.int .u32 0, Value.int .u32 0, Value.int .u32 0, Value.int .u32 0, Value.int .u32 0, Value.int .u32 0, Value.int .u32 0, Value.int .u32 0, Value.int .u32 0, Value.int .u32 0, Value.int .u32 0, Value.int .u32 0, Value.int .u32 0, Value.int .u32 0, Value.int .u32 0, Value.int .u32 0, Value.int .u32 0, Value.int .u32 0, Value.int .u32 0, Value.int .u32 0, Value.int .u32 0] 245)) m2 (by simp; omega) (by simp; omega)) (.cells #[Value.int .u32 0, Value.int .u32 0, Value.int .u32 0, Value.int .u32 0, Value.int .u32 0, Value.int .u32 0, Value.int .u32 0, Value.int .u32 0] 189)) m3 (by simp; have := S2.lt; omega) (by simp; have := S2.lt; omega)
 have hs2 := S2.lt
 have hn1 : w1.heap.size ≠ w.heap.size := by omega
 have hn2 : w2.heap.size ≠ w.heap.size := by omega
 have hn3 : w2.heap.size ≠ w1.heap.size := by omega
 have hn4 : w2.heap.size ≠ w.heap.size + 1 + 1 := by omega
 clear m2 m3 R1 R3 S2 H1 H2 hb2
 have hk4 := hk0.keep hb4
 generalize hp : w1.heap.size = p at *
 generalize hq : w2.heap.size = q at *
 clear hp hq
 have HN := Lib.hid (And.intro hn1 (And.intro hn2 (And.intro hn3 (And.intro hn4 (And.intro hs1 hs2)))))
 clear hn1 hn2 hn3 hn4 hs1 hs2
 go_loopw [16] (fun s16 wr => ∃ k : Nat, k ≤ 64 ∧ s16 = .int .i64 k ∧ Blk wr p (arr 64 (sch b)).toArray ∧ Blk wr q (arr 8 (rds g b k)).toArray ∧ Blk wr w.heap.size (arr 8 g).toArray ∧ Blk wr (w.heap.size + 1 + 1) (arr 8 fun _ => 0).toArray ∧ Below w.heap.size w wr ∧ KT wr) (fun s16 _ => 64 - (intOf s16).toNat)
 case atStart => exact ⟨0, by omega, rfl, S4, V3, H4, R4, hb4, hk4⟩
 case round =>
  clear S4 V3 H4 R4 hb4 hk4
  obtain ⟨k, hk, rfl, S, V, HB8, R, hb, hkt⟩ := hrel
  rename_i wr
  by_cases hlt : k < 64
  ·have v0 := V.cell 0
   have v1 := V.cell 1
   have v2 := V.cell 2
   have v3 := V.cell 3
   have v4 := V.cell 4
   have v5 := V.cell 5
   have v6 := V.cell 6
   have v7 := V.cell 7
   rw [arr_at 8 _ _ (by omega)] at v0 v1 v2 v3 v4 v5 v6 v7
   have s0 := S.cell k
   rw [arr_at 64 _ _ (by omega)] at s0
   have g0 := hkt.cell k hlt
   have x0 := rds_bd g b HH.out k 0
   have x1 := rds_bd g b HH.out k 1
   have x2 := rds_bd g b HH.out k 2
   have x3 := rds_bd g b HH.out k 3
   have x4 := rds_bd g b HH.out k 4
   have x5 := rds_bd g b HH.out k 5
   have x6 := rds_bd g b HH.out k 6
   have x7 := rds_bd g b HH.out k 7
   obtain ⟨y0, y0'⟩ := HW.out k
   obtain ⟨z0, z0'⟩ := kc_bd k
   obtain ⟨x0, x0'⟩ := x0
   obtain ⟨x1, x1'⟩ := x1
   obtain ⟨x2, x2'⟩ := x2
   obtain ⟨x3, x3'⟩ := x3
   obtain ⟨x4, x4'⟩ := x4
   obtain ⟨x5, x5'⟩ := x5
   obtain ⟨x6, x6'⟩ := x6
   obtain ⟨x7, x7'⟩ := x7
   have hlt' : (k : Int) < 64 := by omega
   have HR : Hid (rds g b (k + 1) = rnd (kc k) (sch b k) (rds g b k)) := Lib.hid rfl
   have H8 : Hid ((arr 8 (rds g b (k + 1))).toArray = #[.int .u32 ((rds g b k 7 + bS1 (rds g b k 4) + chI (rds g b k 4) (rds g b k 5) (rds g b k 6) + kc k + sch b k + (bS0 (rds g b k 0) + majI (rds g b k 0) (rds g b k 1) (rds g b k 2))) % 4294967296), .int .u32 (rds g b k 0), .int .u32 (rds g b k 1), .int .u32 (rds g b k 2), .int .u32 ((rds g b k 3 + (rds g b k 7 + bS1 (rds g b k 4) + chI (rds g b k 4) (rds g b k 5) (rds g b k 6) + kc k + sch b k)) % 4294967296), .int .u32 (rds g b k 4), .int .u32 (rds g b k 5), .int .u32 (rds g b k 6)]) := Lib.hid rfl
   generalize sch b k = wc at *
   generalize kc k = kk at *
   generalize rds g b k 0 = a0 at *
   generalize rds g b k 1 = a1 at *
   generalize rds g b k 2 = a2 at *
   generalize rds g b k 3 = a3 at *
   generalize rds g b k 4 = a4 at *
   generalize rds g b k 5 = a5 at *
   generalize rds g b k 6 = a6 at *
   generalize rds g b k 7 = a7 at *
   go_wp2_with fail
   go_quiet (fail)
   go_wp2_with fail
   go_quiet ((go_at_call 177; exact quietD (rot_any _ _ (by omega) (by omega) (by omega) (by omega))))
   go_wp2_with fail
   go_quiet ((go_at_call 177; exact quietD (rot_any _ _ (by omega) (by omega) (by omega) (by omega))))
   go_wp2_with (refine wpList_rowStore row8w rfl rfl (.tmp 6) (.tmp 94) rfl rfl rfl rfl (by simp [Value.oneCell']) (us := arr 8 _) (arr_len 8 _) (V.drewN _) ?_; intro w5 V5 m5)
   have V6 : Blk w5 q (arr 8 (rds g b (k + 1))).toArray := by rw [H8.out]; exact V5
   obtain ⟨n1, n2, n3, n4, n5, n6⟩ := HN.out
   have hb6 := Below.mod (below_drewN hb _) m5 (by simp; exact hb.size) (by simp; omega)
   exact ⟨⟨k + 1, by omega, by go_num, (S.drewN _).mod m5 (by simp; omega), V6, (HB8.drewN _).mod m5 (by simp; omega), (R.drewN _).mod m5 (by simp; omega), hb6, hk0.keep hb6⟩, by simp [intOf]; omega⟩
  ·have hke : k = 64 := by omega
   subst hke
   rw [show ((64 : Nat) : Int) = 64 from rfl]
   go_wp2_with fail
   go_loopw [96] (fun s96 wr => ∃ k : Nat, k ≤ 8 ∧ s96 = .int .i64 k ∧ Blk wr q (arr 8 (blkTo g b k)).toArray ∧ Blk wr w.heap.size (arr 8 g).toArray ∧ Blk wr (w.heap.size + 1 + 1) (arr 8 fun _ => 0).toArray ∧ Below w.heap.size w wr) (fun s96 _ => 8 - (intOf s96).toNat)
   case atStart => exact ⟨0, by omega, rfl, by rw [show blkTo g b 0 = rds g b 64 from by funext i; simp [blkTo]]; exact V, HB8, R, hb⟩
   case round =>
    clear S V HB8 R hb hkt
    obtain ⟨k, hk, rfl, V, HB8, R, hb⟩ := hrel
    rename_i wq
    by_cases hlt : k < 8
    ·have hlt' : (k : Int) < 8 := by omega
     have v0 := V.cell k
     rw [arr_at 8 _ _ (by omega)] at v0
     have d1 := V.froz
     have u0 := HB8.cell k
     rw [arr_at 8 _ _ (by omega)] at u0
     have HE : Hid (blk g b k = (blkTo g b k k + g k) % 4294967296) := Lib.hid (by simp [blkTo, blk])
     have x0 : W32 (blkTo g b k k) := by simp only [blkTo]; rw [if_neg (by omega)]; exact rds_bd g b HH.out 64 k
     obtain ⟨x0, x0'⟩ := x0
     obtain ⟨y0, y0'⟩ := HH.out k
     have V1 := V.set k (.int .u32 (blk g b k))
     rw [arr_set, blkTo_succ, HE.out] at V1
     obtain ⟨n1, n2, n3, n4, n5, n6⟩ := HN.out
     have HV := Lib.hid V1
     clear V1
     generalize blkTo g b k k = a at *
     generalize g k = c at *
     go_wp2_with fail
     go_region
     all_goals go_wp2_with fail
     all_goals exact ⟨⟨k + 1, by omega, by go_num, HV.out.drew, (HB8.other (by simp; omega) _).drew, (R.other (by simp; omega) _).drew, (hb.setCell (by simp; omega) _).drew⟩, by simp [intOf]; omega⟩
    ·have hke : k = 8 := by omega
     subst hke
     have hse : arr 8 (blkTo g b 8) = arr 8 (blk g b) := arr_ext (fun i hi => if_pos hi)
     rw [hse] at V
     go_wp2_with (first
      | (refine wpList_rowLoad row8w rfl (.tmp 6) rfl rfl (arr_len 8 _) V ?_)
      | (refine wpList_rowStore row8w rfl rfl (.tmp 4) (.tmp 108) rfl rfl rfl (arr_len 8 _) (arr_one 8 _) (arr_len 8 _) R ?_; intro w6 R6 m6))
     refine bodyPost_ret (results_cell1 rfl _ _ _ _ rfl (row_loadVar row8w _ (arr_len 8 _) R6)) rfl ?_
     exact ⟨rfl, Below.mod hb m6 (by have := hb.size; omega) (by simp; omega)⟩
end Go.Proofs.YthkpmlfaddlieaaGreatDoor
namespace Go.Proofs.YthkpmlfaddlieaaGreatDoor
open Go.RowKit
def BS (w : World) (v : Value) (l : List UInt8) : Prop :=
 (v = .slice none 0 0 ∧ l = []) ∨ ∃ g off cap, v = .slice (some ⟨g, off, none⟩) l.length cap ∧ l.length ≤ cap ∧ cap ≤ maxLen ∧ g < w.heap.size ∧ BSrc w g off l
theorem BRow.bs {w : World} {base : Nat} {v : Value} {l : List UInt8} (h : BRow w base v l) : BS w v l := by
 rcases h.cells with h | ⟨g, cap, h1, h2, h3, h4, h5, h6, h7⟩
 ·exact .inl h
 ·exact .inr ⟨g, 0, cap, h1, h4, h5, h3, fun i hi => by rw [Nat.zero_add]; exact h6 i hi⟩
theorem BRow.mono {w : World} {b b' : Nat} {v : Value} {l : List UInt8} (h : BRow w b v l) (hb : b' ≤ b) : BRow w b' v l := by
 refine ⟨h.1, h.2.imp id ?_⟩
 rintro ⟨g, cap, cur, hv, h1, h2⟩
 exact ⟨g, cap, cur, hv, Nat.le_trans hb h1, h2⟩
theorem BS.len {w : World} {v : Value} {l : List UInt8} (h : BS w v l) : ∃ a c, v = .slice a l.length c := by
 rcases h with ⟨rfl, rfl⟩ | ⟨g, off, cap, rfl, _⟩
 ·exact ⟨none, 0, rfl⟩
 ·exact ⟨_, cap, rfl⟩
section
variable {ops : Array Oper} {o : Oper} {a : Act} {w : World} {Q : Exit → Act → World → Prop}
theorem wp_appBS {K : Act → World → Prop} (s x : Operand)
  (ho : o.op = .call { callee := .builtin .append, args := #[s, x], argTypes := #[130, 130] })
  (base : Nat) (v : Value) (l : List UInt8) (hs : a.eval s = v) (hown : BRow w base v l)
  (u : Value) (news : List UInt8) (hx : a.eval x = u) (hsrc : BS w u news)
  (hlen : l.length + news.length ≤ 140737488355328) (hbase : base ≤ w.heap.size)
  (h : ∀ v' w', BRow w' base v' (l ++ news) → w.grownBy w' v.ownBlock → K (a.put o.dst v') w') : o.wp Tryz.prog a w K Q := by
 obtain ⟨i0, hi, hz0, hz1, hz2⟩ := info_parts infoU8
 rcases hsrc with ⟨rfl, rfl⟩ | ⟨g, off, cap, rfl, h1, h2, h3, h4⟩
 ·obtain ⟨v', w', hr, h2, h3⟩ : ∃ v' w', (Builtin.append_ #[130, 130] o.type #[v, .slice none 0 0]).run Tryz.prog w = .ok v' w' ∧ BRow w' base v' l ∧ w.grownBy w' v.ownBlock := by
   rcases hown.cells with ⟨rfl, rfl⟩ | ⟨g, cap, rfl, q1, q2, q3, q4, q5, q6⟩
   ·refine ⟨.slice none 0 0, w, ?_, BRow.nil _ _, ⟨rfl, rfl, rfl, Nat.le_refl _, fun _ _ _ => rfl⟩⟩
    simp [Builtin.append_, run_underlying Tryz.underlying130, sizeOf, typeInfo, hi, hz1, Builtin.lenOf, Builtin.firstCells]
   ·refine ⟨.slice (some ⟨g, 0, none⟩) l.length cap, w, ?_, hown, ⟨rfl, rfl, rfl, Nat.le_refl _, fun _ _ _ => rfl⟩⟩
    simp [Builtin.append_, run_underlying Tryz.underlying130, sizeOf, typeInfo, hi, hz1, Builtin.lenOf, Builtin.firstCells, q3, storeCells]
  unfold Oper.wp execOp
  simp only [ho, resolve, invoke, builtin, Sem.run_bind, Sem.run_pure, Result.andThen_ok, List.map_toArray, List.map_cons, List.map_nil, hs, hx, hr]
  exact h v' w' (by rw [List.append_nil]; exact h2) h3
 ·refine wp_append_own w s x 130 ho base 5 i0 (.int .u8 0) 1 1 Tryz.underlying130 hi hz0 hz1 hz2 rfl (by decide) v l.length (bv l) hs hown ⟨g, off, none⟩ news.length cap (bv news) hx (by rw [bv_len]; omega) (bsrc_news h4) (bone news)
   (by unfold maxLen; omega) (by omega) hbase (fun v' w' h2 h3 _ => h v' w' ?_ h3)
  unfold BRow
  rw [List.length_append, show bv (l ++ news) = bv l ++ bv news from by simp [bv]]
  exact h2
theorem wpList_appBS {rest : List Oper} (hgd : o.guard = none) (s x : Operand)
  (ho : o.op = .call { callee := .builtin .append, args := #[s, x], argTypes := #[130, 130] })
  (base : Nat) (v : Value) (l : List UInt8) (hs : a.eval s = v) (hown : BRow w base v l)
  (u : Value) (news : List UInt8) (hx : a.eval x = u) (hsrc : BS w u news)
  (hlen : l.length + news.length ≤ 140737488355328) (hbase : base ≤ w.heap.size)
  (h : ∀ v' w', BRow w' base v' (l ++ news) → w.grownBy w' v.ownBlock → wpList Tryz.prog ops Q rest (a.put o.dst v') w') : wpList Tryz.prog ops Q (o :: rest) a w :=
 wpList_plain hgd fun _ hK => wp_appBS s x ho base v l hs hown u news hx hsrc hlen hbase fun v' w' h2 h3 => hK _ _ (h v' w' h2 h3)
theorem step_appBS {K : Act → World → Prop} {E : Prop} (hgd : o.guard = none) (s x : Operand)
  (ho : o.op = .call { callee := .builtin .append, args := #[s, x], argTypes := #[130, 130] })
  (base : Nat) (v : Value) (l : List UInt8) (hs : a.eval s = v) (hown : BRow w base v l)
  (u : Value) (news : List UInt8) (hx : a.eval x = u) (hsrc : BS w u news)
  (hlen : l.length + news.length ≤ 140737488355328) (hbase : base ≤ w.heap.size)
  (h : ∀ v' w', BRow w' base v' (l ++ news) → w.grownBy w' v.ownBlock → K (a.put o.dst v') w') :
  if Region.wanted o (yielded ops a.tmps) = true then Oper.wp Tryz.prog o a w K Q else E := by
 have hw : Region.wanted o (yielded ops a.tmps) = true := by simp [Region.wanted, hgd]
 rw [if_pos hw]
 exact wp_appBS s x ho base v l hs hown u news hx hsrc hlen hbase h
theorem wp_appBT {K : Act → World → Prop} (s x : Operand)
  (ho : o.op = .call { callee := .builtin .append, args := #[s, x], argTypes := #[130, 9] })
  (base : Nat) (v : Value) (l : List UInt8) (hs : a.eval s = v) (hown : BRow w base v l)
  (news : List UInt8) (hx : a.eval x = .string ⟨List.toArray news⟩)
  (hlen : l.length + news.length ≤ 140737488355328) (hbase : base ≤ w.heap.size)
  (h : ∀ v' w', BRow w' base v' (l ++ news) → w.grownBy w' v.ownBlock → K (a.put o.dst v') w') : o.wp Tryz.prog a w K Q := by
 obtain ⟨i0, hi, hz0, hz1, hz2⟩ := info_parts infoU8
 have hsz : (⟨news.toArray⟩ : ByteArray).size = news.length := by simp [ByteArray.size]
 obtain ⟨v', w', hr, h2, h3, _⟩ := Lib.run_append_own_string (P := Tryz.prog) w base 130 9 o.type 5 i0 Tryz.underlying130 Tryz.underlying9 hi hz0 hz1 hz2 v l.length (bv l) hown ⟨news.toArray⟩ (by rw [hsz]; unfold maxLen; omega) (by rw [hsz]; omega) hbase
 unfold Oper.wp execOp
 simp only [ho, resolve, invoke, builtin, Sem.run_bind, Sem.run_pure, Result.andThen_ok, List.map_toArray, List.map_cons, List.map_nil, hs, hx, hr]
 refine h v' w' ?_ h3
 unfold BRow
 rw [List.length_append, show bv (l ++ news) = bv l ++ bv news from by simp [bv]]
 rw [hsz] at h2
 exact h2
theorem step_appBT {K : Act → World → Prop} {E : Prop} (hgd : o.guard = none) (s x : Operand)
  (ho : o.op = .call { callee := .builtin .append, args := #[s, x], argTypes := #[130, 9] })
  (base : Nat) (v : Value) (l : List UInt8) (hs : a.eval s = v) (hown : BRow w base v l)
  (news : List UInt8) (hx : a.eval x = .string ⟨List.toArray news⟩)
  (hlen : l.length + news.length ≤ 140737488355328) (hbase : base ≤ w.heap.size)
  (h : ∀ v' w', BRow w' base v' (l ++ news) → w.grownBy w' v.ownBlock → K (a.put o.dst v') w') :
  if Region.wanted o (yielded ops a.tmps) = true then Oper.wp Tryz.prog o a w K Q else E := by
 have hw : Region.wanted o (yielded ops a.tmps) = true := by simp [Region.wanted, hgd]
 rw [if_pos hw]
 exact wp_appBT s x ho base v l hs hown news hx hlen hbase h
end
theorem grown_nil {w w' : World} (hg : w.grownBy w' none) : Below w.heap.size w w' := grown_below hg (Nat.le_refl _) (fun k hk => by cases hk)
theorem grown_mod {w w' : World} {row : Option Nat} (hg : w.grownBy w' row) : Mod row.toList w w' :=
 ⟨hg.os, hg.tape, hg.output, hg.size, fun k hk hn => hg.block k hk (fun e => hn (by rw [← e]; simp))⟩
theorem ownBlock_lt {w : World} {base : Nat} {v : Value} {l : List UInt8} (h : BRow w base v l) : ∀ k, v.ownBlock = some k → base ≤ k ∧ k < w.heap.size := by
 intro k hk
 rcases h.cells with ⟨rfl, _⟩ | ⟨g, cap, rfl, hb, hg, _⟩
 ·cases hk
 ·cases hk; exact ⟨hb, hg⟩
end Go.Proofs.YthkpmlfaddlieaaGreatDoor
