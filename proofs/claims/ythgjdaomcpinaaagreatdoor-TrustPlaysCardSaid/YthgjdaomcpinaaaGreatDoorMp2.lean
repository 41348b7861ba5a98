/- Strs, Kit2, Texts, Members. -/
import Derived.Deep.MidRow
import Derived.Test.YthgjdaomcpinaaaGreatDoorMp1
set_option linter.unnecessarySimpa false
set_option linter.unusedSimpArgs false
set_option linter.unusedVariables false
set_option maxRecDepth 100000
set_option maxHeartbeats 32000000
namespace Go.Proofs.YthgjdaomcpinaaaGreatDoor
open Go.RowKit
theorem infoStr : (Tryz.prog.info? 9).map (fun i => (i.zero, i.size, i.bytes)) = some (some (.string ⟨#[]⟩), 1, 16) := by kernel_rfl
def sv (l : List (List UInt8)) : List Value := l.map fun c => Value.string ⟨List.toArray c⟩
def SRow (w : World) (base : Nat) (v : Value) (l : List (List UInt8)) : Prop := w.ownsRow base 9 1 v l.length (sv l)
theorem sv_len (l : List (List UInt8)) : (sv l).length = l.length := by simp [sv]
theorem SRow.nil (w : World) (base : Nat) : SRow w base (.slice none 0 0) [] := ⟨rfl, .inl ⟨rfl, rfl⟩⟩
theorem SRow.cells {w : World} {base : Nat} {v : Value} {l : List (List UInt8)} (h : SRow w base v l) :
  (v = .slice none 0 0 ∧ l = []) ∨ ∃ g cap, v = .slice (some ⟨g, 0, none⟩) l.length cap ∧ base ≤ g ∧ g < w.heap.size ∧ l.length ≤ cap ∧ cap ≤ maxLen ∧ (∀ i, i < l.length → w.cell? ⟨g, i, none⟩ = some (.string ⟨List.toArray (l.getD i [])⟩)) ∧ ∀ o, w.frozen? ⟨g, o, none⟩ = false := by
 rcases h.2 with ⟨h1, h2⟩ | ⟨g, cap, cur, hv, hb, hg, hn, hm, hc, ht⟩
 ·exact .inl ⟨h1, List.length_eq_zero_iff.1 h2⟩
 ·refine .inr ⟨g, cap, hv, hb, ?_, hn, hm, fun i hi => ?_, fun o => ?_⟩
  ·rcases Nat.lt_or_ge g w.heap.size with hlt | hge
   ·exact hlt
   ·rw [Array.getElem?_eq_none hge] at hg; cases hg
  ·have h1 : cur[i]? = (cur.toList.take (l.length * 1))[i]? := by
    rw [List.getElem?_take, if_pos (by omega)]; simp
   have h2 : w.cell? ⟨g, i, none⟩ = cur[i]? := by simp [World.cell?, hg]
   rw [h2, h1, ht]
   simp [sv, List.getD, List.getElem?_eq_getElem hi]
  ·simp [World.frozen?, hg]
theorem SRow.form {w : World} {base : Nat} {v : Value} {l : List (List UInt8)} (h : SRow w base v l) : ∃ (a : Option Addr) (cap : Nat), v = .slice a l.length cap := by
 rcases h.cells with ⟨rfl, rfl⟩ | ⟨g, cap, rfl, _⟩
 ·exact ⟨none, 0, rfl⟩
 ·exact ⟨_, cap, rfl⟩
theorem SRow.own {w : World} {base : Nat} {v : Value} {l : List (List UInt8)} (h : SRow w base v l) : ∀ k, v.ownBlock = some k → base ≤ k := by
 intro k hk
 rcases h.cells with ⟨rfl, _⟩ | ⟨g, cap, rfl, hb, _⟩
 ·cases hk
 ·cases hk; exact hb
theorem SRow.kept {w w' : World} {base : Nat} {v : Value} {l : List (List UInt8)} (h : SRow w base v l) (hb : ∀ k, v.ownBlock = some k → w'.heap[k]? = w.heap[k]?) : SRow w' base v l := by
 refine ⟨h.1, h.2.imp id ?_⟩
 rintro ⟨g, cap, cur, hv, h1, h2, h3⟩
 subst hv
 exact ⟨g, cap, cur, rfl, h1, (hb g rfl).trans h2, h3⟩
theorem SRow.alloc {w : World} {base : Nat} {v : Value} {l : List (List UInt8)} (h : SRow w base v l) (o : Obj) : SRow (w.alloc o) base v l := by
 refine h.kept (fun k hk => Below.heap_alloc _ _ _ ?_)
 rcases h.cells with ⟨rfl, rfl⟩ | ⟨g, cap, rfl, _, hlt, _⟩
 ·cases hk
 ·cases hk; exact hlt
theorem SRow.drew {w : World} {base : Nat} {v : Value} {l : List (List UInt8)} (h : SRow w base v l) : SRow w.drew base v l := h
def SSrc (w : World) (g o : Nat) (l : List (List UInt8)) : Prop := ∀ i, i < l.length → w.cell? ⟨g, o + i, none⟩ = some (.string ⟨List.toArray (l.getD i [])⟩)
theorem ssrc1 (w : World) (x : List UInt8) (t : TypeId) : SSrc (w.alloc (.cells #[.string ⟨List.toArray x⟩] t)) w.heap.size 0 [x] := by
 intro i hi
 have : i = 0 := by simp at hi; omega
 subst this
 simp
theorem ssrc_news {w : World} {g o : Nat} {l : List (List UInt8)} (h : SSrc w g o l) : ∀ j u, (sv l)[j]? = some u → w.cell? ((⟨g, o, none⟩ : Addr).add j) = some u := by
 intro j u hj
 have hjl : j < l.length := by
  rcases Nat.lt_or_ge j l.length with hlt | hge
  ·exact hlt
  ·rw [List.getElem?_eq_none (by rw [sv_len]; exact hge)] at hj; cases hj
 have hadd : (⟨g, o, none⟩ : Addr).add j = ⟨g, o + j, none⟩ := by unfold Addr.add; split <;> simp_all
 rw [hadd, h j hjl]
 simp [sv, List.getElem?_eq_getElem hjl] at hj
 simp [List.getD, List.getElem?_eq_getElem hjl, hj]
theorem sone (l : List (List UInt8)) : ∀ u ∈ sv l, u.oneCell' = true := by
 intro u hu
 simp [sv] at hu
 obtain ⟨c, _, rfl⟩ := hu
 rfl
section
variable {ops : Array Oper} {o : Oper} {a : Act} {w : World} {Q : Exit → Act → World → Prop}
theorem wp_appS {K : Act → World → Prop} (s x : Operand)
  (ho : o.op = .call { callee := .builtin .append, args := #[s, x], argTypes := #[22, 22] })
  (base : Nat) (v : Value) (l : List (List UInt8)) (hs : a.eval s = v) (hown : SRow w base v l)
  (g off m c : Nat) (news : List (List UInt8)) (hx : a.eval x = .slice (some ⟨g, off, none⟩) m c) (hm : news.length = m) (hsrc : SSrc w g off news)
  (hlen : l.length + m ≤ 8796093022208) (hbase : base ≤ w.heap.size)
  (h : ∀ v' w', SRow w' base v' (l ++ news) → Below base w w' → K (a.put o.dst v') w') : o.wp Tryz.prog a w K Q := by
 obtain ⟨i0, hi, hz0, hz1, hz2⟩ := info_parts infoStr
 refine wp_append_own w s x 22 ho base 9 i0 (.string ⟨#[]⟩) 1 16 Tryz.underlying22 hi hz0 hz1 hz2 rfl (by decide) v l.length (sv l) hs hown ⟨g, off, none⟩ m c (sv news) hx (by rw [sv_len, hm]; omega) (ssrc_news hsrc) (sone news)
  (by unfold maxLen; omega) (by omega) hbase (fun v' w' h2 h3 _ => h v' w' ?_ (grown_below h3 hbase hown.own))
 unfold SRow
 rw [List.length_append, hm, show sv (l ++ news) = sv l ++ sv news from by simp [sv]]
 exact h2
theorem wpList_appS {rest : List Oper} (hgd : o.guard = none) (s x : Operand)
  (ho : o.op = .call { callee := .builtin .append, args := #[s, x], argTypes := #[22, 22] })
  (base : Nat) (v : Value) (l : List (List UInt8)) (hs : a.eval s = v) (hown : SRow w base v l)
  (g off m c : Nat) (news : List (List UInt8)) (hx : a.eval x = .slice (some ⟨g, off, none⟩) m c) (hm : news.length = m) (hsrc : SSrc w g off news)
  (hlen : l.length + m ≤ 8796093022208) (hbase : base ≤ w.heap.size)
  (h : ∀ v' w', SRow w' base v' (l ++ news) → Below base w w' → wpList Tryz.prog ops Q rest (a.put o.dst v') w') : wpList Tryz.prog ops Q (o :: rest) a w :=
 wpList_plain hgd fun _ hK => wp_appS s x ho base v l hs hown g off m c news hx hm hsrc hlen hbase fun v' w' h2 h3 => hK _ _ (h v' w' h2 h3)
end
end Go.Proofs.YthgjdaomcpinaaaGreatDoor
namespace Go.Proofs.YthgjdaomcpinaaaGreatDoor
open Go.RowKit
theorem wp_tail {P : Program} {id : Nat} {Q : Exit → Act → World → Prop} {a : Act} {w : World} {l : List Oper} (n : Nat) (hm : P.follows .mixedOrders = true) (hB : Region.lexTailB .any l.toArray n = true)
  (h : ∀ w2, w2 = w.drew → wpStill P l.toArray w2 (fun a' => wpList P l.toArray Q (l.drop n) a' w2) (l.take n) a) : (Code.region id l.toArray true).wp P Q a w :=
 wp_region_still_tail n hm hB (h _ rfl)
structure RowT (P : Program) (T : TypeId) (n : Nat) : Prop where
 und : ∃ d, P.underlying T = some d ∧ d.isRow = true
 size : (P.info? T).map (·.size) = some n
theorem RowT.mk' {P : Program} {T : TypeId} {n : Nat} {d : TypeDesc} (h : P.underlying T = some d) (hd : d.isRow = true) (hs : (P.info? T).map (·.size) = some n) : RowT P T n := ⟨⟨d, h, hd⟩, hs⟩
theorem Blk.range {w : World} {b : Nat} {vs : List Value} (h : Blk w b vs.toArray) : w.rangeAt b 0 vs := by
 intro j v hv
 rw [Nat.zero_add, h.cell j]
 simpa using hv
theorem Mod.setCellsL (b : Nat) : ∀ (vs : List Value) (o : Nat) (w : World), Mod [b] w (w.setCells b o vs)
 | [], _, w => Mod.refl _ _
 | v :: r, o, w => by
  rw [World.setCells]
  exact ((Mod.refl _ w).setCell (.inl (by simp)) v).trans (Mod.setCellsL b r (o + 1) _)
section
variable {P : Program} {T : TypeId} {n : Nat} {ops : Array Oper} {rest : List Oper} {op : Oper} {a : Act} {w : World} {Q : Exit → Act → World → Prop}
theorem wpList_rowLoad (hT : RowT P T n) (hgd : op.guard = none) (x : Operand) (ho : op.op = .load T x) {b : Nat} (hx : a.eval x = .pointer (some ⟨b, 0, none⟩)) {vs : List Value} (hl : vs.length = n) (hB : Blk w b vs.toArray)
  (h : wpList P ops Q rest (a.put op.dst (.agg vs.toArray)) w) : wpList P ops Q (op :: rest) a w := by
 obtain ⟨⟨d, h1, h2⟩, h3⟩ := hT
 exact wpList_load_mid hgd T x ho b 0 hx vs d hB.range h1 h2 (by rw [hl]; exact h3) h
theorem wpList_rowLoadG (hT : RowT P T n) (hw : Region.wanted op (yielded ops a.tmps) = true) (x : Operand) (ho : op.op = .load T x) {b : Nat} (hx : a.eval x = .pointer (some ⟨b, 0, none⟩)) {vs : List Value} (hl : vs.length = n) (hB : Blk w b vs.toArray)
  (h : wpList P ops Q rest (a.put op.dst (.agg vs.toArray)) w) : wpList P ops Q (op :: rest) a w := by
 obtain ⟨⟨d, h1, h2⟩, h3⟩ := hT
 refine wpList_step fun K hK => ?_
 rw [if_pos hw]
 exact wp_load_mid T x ho b 0 hx vs d hB.range h1 h2 (by rw [hl]; exact h3) (hK _ _ h)
theorem wpList_rowStore (hT : RowT P T n) (hgd : op.guard = none) (hd : op.dst = none) (x y : Operand) (ho : op.op = .store T x y) {b : Nat} (hx : a.eval x = .pointer (some ⟨b, 0, none⟩)) {vs : List Value} (hy : a.eval y = .agg vs.toArray) (hl : vs.length = n) (h1 : ∀ v ∈ vs, v.oneCell' = true)
  {us : List Value} (hlu : us.length = n) (hB : Blk w b us.toArray)
  (h : ∀ w', Blk w' b vs.toArray → Mod [b] w w' → wpList P ops Q rest a w') : wpList P ops Q (op :: rest) a w := by
 obtain ⟨_, h3⟩ := hT
 have ht : w.there b 0 vs.length := fun j hj => by
  rw [Nat.zero_add, hB.cell, hB.froz]
  simp; omega
 refine wpList_store_mid hgd T x y ho b 0 _ hx hy (by simpa using ht) (by simp [hl, h3]) (all_oneCell_toArray h1) ?_
 rw [hd]
 refine h _ ⟨fun o => ?_, fun o => by rw [World.frozen?_setCells]; exact hB.froz o, ?_⟩ (Mod.setCellsL b _ 0 w)
 ·by_cases ho : o < vs.length
  ·have := World.cell?_setCells_in b vs 0 w (fun i hi => (ht i hi).1) o ho
   rw [Nat.zero_add] at this
   simp only [List.getElem?_toArray]
   rw [List.getElem?_eq_getElem ho]
   exact this
  ·rw [World.cell?_setCells_out b _ 0 w _ (fun _ _ => .inr (by simp at ho ⊢; omega)), hB.cell]
   simp at ho ⊢
   rw [List.getElem?_eq_none (by omega), List.getElem?_eq_none (by omega)]
 ·exact Nat.lt_of_lt_of_le hB.lt (Mod.setCellsL b _ 0 w).size
theorem row_loadVar (hT : RowT P T n) (w : World) {b : Nat} {vs : List Value} (hl : vs.length = n) (hB : Blk w b vs.toArray) : (loadVar T ⟨b, 0, none⟩).run P w = .ok (.agg vs.toArray) w := by
 obtain ⟨⟨d, h1, h2⟩, h3⟩ := hT
 exact run_loadVar_mid w b 0 T vs d hB.range h1 h2 (by rw [hl]; exact h3)
end
theorem Below.name {B : Nat} {a w : World} (_ : Below B a w) : ∃ w' : World, w' = w := ⟨w, rfl⟩
theorem results_cell1 {P : Program} {fn : Func} {a : Nat} {t : TypeId} (h : fn.results = #[.cell a t]) (tmps : Array Value) (w : World) (p : Addr) (v : Value) (hp : tmps.getD a undef = .pointer (some p)) (hl : (loadVar t p).run P w = .ok v w) :
  (results fn tmps).run P w = .ok v w := by
 unfold results
 rw [h]
 rw [Array.getD_eq_getD_getElem?] at hp
 simp [hp, asAddr, hl, Sem.run_bind]
theorem quietD {P : Program} {f : FuncId} {args : Array Value} {w : World} {a n : Nat} {v : Value} (h : ∀ W : World, Calls P f args W fun e w' => e = .returned v ∧ W = w') :
  Calls P f args (w.drewN (a + n)) fun e w'' => e = .returned v ∧ ∃ k, w'' = w.drewN (a + k) :=
 (h _).mono fun _ _ ⟨he, hw⟩ => ⟨he, n, hw.symm⟩
section
variable {P : Program} {ops : Array Oper} {C : World → Prop} {Q : Act → Prop} {o : Oper} {rest : List Oper} {a : Act}
theorem wpQ_skip (hw : Region.wanted o (yielded ops a.tmps) = false) (h : wpQuiet P ops C Q rest (a.put o.dst undef)) : wpQuiet P ops C Q (o :: rest) a := by
 unfold wpQuiet
 rw [if_neg (by rw [hw]; simp)]
 exact h
theorem wpQ_load (hw : Region.wanted o (yielded ops a.tmps) = true) (u : Value) (hv : ∀ w, C w → (execOp a.eval o).run P w = .ok (.value u) w) (h : wpQuiet P ops C Q rest (a.put o.dst u)) : wpQuiet P ops C Q (o :: rest) a := by
 unfold wpQuiet
 rw [if_pos hw]
 exact ⟨u, fun w hC => by unfold Oper.quietAt; rw [hv w hC]; exact ⟨rfl, rfl⟩, h⟩
theorem wpQ_pure (hw : Region.wanted o (yielded ops a.tmps) = true) (u : Value) (hv : ∀ w, (execOp a.eval o).run P w = .ok (.value u) w) (h : wpQuiet P ops C Q rest (a.put o.dst u)) : wpQuiet P ops C Q (o :: rest) a :=
 wpQ_load hw u (fun w _ => hv w) h
theorem wpQ_call (hw : Region.wanted o (yielded ops a.tmps) = true) (f : FuncId) (args : Array Value) (v : Value) (hc : ∀ w, C w → Calls P f args w fun e w' => e = .returned v ∧ C w') (hv : ∀ w, (execOp a.eval o).run P w = .ok (.enter f args) w)
  (h : wpQuiet P ops C Q rest (a.put o.dst v)) : wpQuiet P ops C Q (o :: rest) a := by
 unfold wpQuiet
 rw [if_pos hw]
 exact ⟨v, fun w hC => by unfold Oper.quietAt; rw [hv w]; exact ⟨rfl, hc w hC⟩, h⟩
theorem wpQ_row {T : TypeId} {n : Nat} (hT : RowT P T n) (hw : Region.wanted o (yielded ops a.tmps) = true) (x : Operand) (ho : o.op = .load T x) {b : Nat} (hx : a.eval x = .pointer (some ⟨b, 0, none⟩)) {vs : List Value} (hl : vs.length = n) (hB : ∀ w, C w → Blk w b vs.toArray)
  (h : wpQuiet P ops C Q rest (a.put o.dst (.agg vs.toArray))) : wpQuiet P ops C Q (o :: rest) a :=
 wpQ_load hw _ (fun w hC => by
  unfold execOp
  simp only [ho, hx, Instr.loadAt, Instr.sureAddr, Sem.run_bind, Sem.run_pure, Result.andThen_ok, row_loadVar hT w hl (hB w hC)]) h
end
theorem wp_held {P : Program} {id : Nat} {Q : Exit → Act → World → Prop} {a : Act} {w : World} {l : List Oper} (hm : P.follows .mixedOrders = true) (hB : Region.lexB .any l.toArray = true)
  (h : wpQuiet P l.toArray (Below w.heap.size w) (fun a' => ∀ w', Below w.heap.size w w' → Q .normal a' w') l a) : (Code.region id l.toArray true).wp P Q a w :=
 wp_region_quiet (C := Below w.heap.size w) hm hB (Below.refl _ _).drew (by simpa using h)
theorem callB {P : Program} {W : World} {f : FuncId} {args : Array Value} {v : Value} (h : ∀ w, Calls P f args w fun e w' => e = .returned v ∧ Below w.heap.size w w') :
  ∀ w, Below W.heap.size W w → Calls P f args w fun e w' => e = .returned v ∧ Below W.heap.size W w' :=
 fun w hb => (h w).mono fun _ _ ⟨he, hb2⟩ => ⟨he, hb.trans (hb2.mono hb.size)⟩
theorem callW {P : Program} {W : World} {f : FuncId} {args : Array Value} {v : Value} (h : ∀ w, Below W.heap.size W w → Calls P f args w fun e w' => e = .returned v ∧ Below w.heap.size w w') :
  ∀ w, Below W.heap.size W w → Calls P f args w fun e w' => e = .returned v ∧ Below W.heap.size W w' :=
 fun w hb => (h w hb).mono fun _ _ ⟨he, hb2⟩ => ⟨he, hb.trans (hb2.mono hb.size)⟩
theorem callS {P : Program} {W : World} {f : FuncId} {args : Array Value} {v : Value} (h : ∀ w, Below W.heap.size W w → Calls P f args w fun e w' => e = .returned v ∧ w = w') :
  ∀ w, Below W.heap.size W w → Calls P f args w fun e w' => e = .returned v ∧ Below W.heap.size W w' :=
 fun w hb => (h w hb).mono fun _ _ ⟨he, hb2⟩ => ⟨he, hb2 ▸ hb⟩
section
variable {P : Program} {ops : Array Oper} {S : World → Prop} {Q : Exit → Act → World → Prop} {fuel : Nat} {listed : Array Bool} {a : Act} {w : World} {oi : Oper}
theorem wpH_pure (i : Nat) (u : Value) (hi : ops[i]? = some oi) (hs : Region.noSelect ops = true) (hf : Region.free .any ops listed i = true) (hr : (Region.ready .any ops listed).contains i = true)
  (hw : Region.wanted oi (yielded ops a.tmps) = true) (hS : S w) (hQ : ∀ c a w, Q (.panic c) (a.put oi.dst u) w → Q (.panic c) a w) (hv : ∀ w, (execOp a.eval oi).run P w = .ok (.value u) w)
  (h : wpAnyH P .any ops Q S fuel (listed.setIfInBounds i true) (a.put oi.dst u) w) : wpAnyH P .any ops Q S (fuel + 1) listed a w :=
 wpAnyH_take hi hs hf hr hQ (.inl ⟨hw, fun w _ => hv w⟩) hS h
theorem wpH_skip (i : Nat) (hi : ops[i]? = some oi) (hs : Region.noSelect ops = true) (hf : Region.free .any ops listed i = true) (hr : (Region.ready .any ops listed).contains i = true)
  (hw : Region.wanted oi (yielded ops a.tmps) = false) (hS : S w) (hQ : ∀ c a w, Q (.panic c) (a.put oi.dst undef) w → Q (.panic c) a w)
  (h : wpAnyH P .any ops Q S fuel (listed.setIfInBounds i true) (a.put oi.dst undef) w) : wpAnyH P .any ops Q S (fuel + 1) listed a w :=
 wpAnyH_take hi hs hf hr hQ (.inr ⟨hw, rfl⟩) hS h
theorem wpH_row {T : TypeId} {n : Nat} (hT : RowT P T n) (i : Nat) (hi : ops[i]? = some oi) (hs : Region.noSelect ops = true) (hf : Region.free .any ops listed i = true) (hr : (Region.ready .any ops listed).contains i = true)
  (hw : Region.wanted oi (yielded ops a.tmps) = true) (hS : S w) {vs : List Value} (hQ : ∀ c a w, Q (.panic c) (a.put oi.dst (.agg vs.toArray)) w → Q (.panic c) a w) (x : Operand) (ho : oi.op = .load T x) {b : Nat} (hx : a.eval x = .pointer (some ⟨b, 0, none⟩)) (hl : vs.length = n) (hB : ∀ w, S w → Blk w b vs.toArray)
  (h : wpAnyH P .any ops Q S fuel (listed.setIfInBounds i true) (a.put oi.dst (.agg vs.toArray)) w) : wpAnyH P .any ops Q S (fuel + 1) listed a w :=
 wpAnyH_take hi hs hf hr hQ (.inl ⟨hw, fun w hC => by
  unfold execOp
  simp only [ho, hx, Instr.loadAt, Instr.sureAddr, Sem.run_bind, Sem.run_pure, Result.andThen_ok, row_loadVar hT w hl (hB w hC)]⟩) hS h
theorem wpH_load (i : Nat) (u : Value) (hi : ops[i]? = some oi) (hs : Region.noSelect ops = true) (hf : Region.free .any ops listed i = true) (hr : (Region.ready .any ops listed).contains i = true)
  (hw : Region.wanted oi (yielded ops a.tmps) = true) (hS : S w) (hQ : ∀ c a w, Q (.panic c) (a.put oi.dst u) w → Q (.panic c) a w) (hv : ∀ w, S w → (execOp a.eval oi).run P w = .ok (.value u) w)
  (h : wpAnyH P .any ops Q S fuel (listed.setIfInBounds i true) (a.put oi.dst u) w) : wpAnyH P .any ops Q S (fuel + 1) listed a w :=
 wpAnyH_take hi hs hf hr hQ (.inl ⟨hw, hv⟩) hS h
theorem wpH_call (i : Nat) (hi : ops[i]? = some oi) (hr : Region.ready .any ops listed = [i]) (hw : Region.wanted oi (yielded ops a.tmps) = true) {f : FuncId} {args : Array Value} {R : Ending → World → Prop} (hc : Calls P f args w R)
  (hv : (execOp a.eval oi).run P w = .ok (.enter f args) w)
  (h : ∀ e w', R e w' → ∃ v, e = .returned v ∧ S w' ∧ wpAnyH P .any ops Q S fuel (listed.setIfInBounds i true) (a.put oi.dst v) w') : wpAnyH P .any ops Q S (fuel + 1) listed a w := by
 refine wpAnyH_all hr (by simp) (fun j hj => ?_)
 obtain rfl : j = i := by simpa using hj
 unfold wpOp
 simp only [hi, hw, if_true]
 refine .inl ?_
 unfold Oper.wp
 rw [hv, Oper.upon_enter]
 refine hc.mono fun e w' hR => ?_
 obtain ⟨v, rfl, h1, h2⟩ := h e w' hR
 exact ⟨h1, h2⟩
theorem wpH_op (i : Nat) (hi : ops[i]? = some oi) (hr : Region.ready .any ops listed = [i]) (hw : Region.wanted oi (yielded ops a.tmps) = true)
  (h : oi.wp P a w (fun a' w' => S w' ∧ wpAnyH P .any ops Q S fuel (listed.setIfInBounds i true) a' w') Q) : wpAnyH P .any ops Q S (fuel + 1) listed a w := by
 refine wpAnyH_all hr (by simp) (fun j hj => ?_)
 obtain rfl : j = i := by simpa using hj
 unfold wpOp
 simp only [hi, hw, if_true]
 exact .inl h
end
theorem wpH_start {P : Program} {id : Nat} {ops : Array Oper} {Q : Exit → Act → World → Prop} {a : Act} {w : World} (hm : P.follows .mixedOrders = true)
  (h : Below w.heap.size w w.drew → wpAnyH P .any ops Q (Below w.heap.size w) ops.size (Array.replicate ops.size false) a w.drew) : (Code.region id ops true).wp P Q a w :=
 wp_region_held_drew hm (Below.refl _ _).drew h
theorem wpH_startM {P : Program} {id : Nat} {ops : Array Oper} {Q : Exit → Act → World → Prop} {a : Act} {w : World} (l : List Nat) (hm : P.follows .mixedOrders = true)
  (h : Mod l w w.drew → wpAnyH P .any ops Q (Mod l w) ops.size (Array.replicate ops.size false) a w.drew) : (Code.region id ops true).wp P Q a w :=
 wp_region_held_drew hm (Mod.refl _ _).drew h
theorem pna (a : Act) (d : Nat) (v : Value) : a.put (some d) v = { a with tmps := a.tmps.setIfInBounds d v } := rfl
theorem pnb (a : Act) (v : Value) : a.put none v = a := rfl
theorem pnc {α : Type} (xs : List α) (i : Nat) (x : α) : xs.toArray.setIfInBounds i x = (xs.set i x).toArray := by simp
theorem pnd {α : Type} (y : α) (r : List α) (x : α) : (y :: r).set 0 x = x :: r := rfl
theorem pne {α : Type} (y : α) (r : List α) (i : Nat) (x : α) : (y :: r).set (i + 1) x = y :: r.set i x := rfl
abbrev ztL : List Value := [.int .i64 (0), .int .i64 (0), .int .i64 (0), .bool false, .string ⟨List.toArray ([])⟩, .string ⟨List.toArray ([])⟩, .string ⟨List.toArray ([])⟩, .string ⟨List.toArray ([])⟩, .string ⟨List.toArray ([])⟩, .string ⟨List.toArray ([])⟩, .slice none 0 0, .slice none 0 0, .int .i64 (0)]
abbrev ztA : Array Value := #[.int .i64 (0), .int .i64 (0), .int .i64 (0), .bool false, .string ⟨List.toArray ([])⟩, .string ⟨List.toArray ([])⟩, .string ⟨List.toArray ([])⟩, .string ⟨List.toArray ([])⟩, .string ⟨List.toArray ([])⟩, .string ⟨List.toArray ([])⟩, .slice none 0 0, .slice none 0 0, .int .i64 (0)]
def bareO (o : Oper) : Oper := { o with pos := "", after := #[] }
theorem exec_bare (r : Operand → Value) (o : Oper) : execOp r (bareO o) = execOp r o := rfl
theorem bare_at {ops : Array Oper} {i : Nat} {oi : Oper} (h : (ops[i]?).map bareO = some oi) : ∃ o, ops[i]? = some o ∧ bareO o = oi := by
 cases hh : ops[i]? with
 | none => rw [hh] at h; cases h
 | some o => rw [hh] at h; injection h with h; exact ⟨o, rfl, h⟩
section
variable {P : Program} {ops : Array Oper} {S : World → Prop} {Q : Exit → Act → World → Prop} {fuel : Nat} {listed : Array Bool} {a : Act} {w : World}
theorem hP (i : Nat) (u : Value) (oi : Oper) (hS : S w) (hv : ∀ w, (execOp a.eval oi).run P w = .ok (.value u) w)
  (h : wpAnyH P .any ops Q S fuel (listed.setIfInBounds i true) (a.put oi.dst u) w) (hi : (ops[i]?).map bareO = some oi := by rfl) (hs : Region.noSelect ops = true := by kernel_rfl) (hf : Region.free .any ops listed i = true := by kernel_rfl) (hr : (Region.ready .any ops listed).contains i = true := by kernel_rfl)
  (hw : Region.wanted oi (yielded ops a.tmps) = true := by rfl) (hQ : ∀ c a w, Q (.panic c) (a.put oi.dst u) w → Q (.panic c) a w := by exact fun _ _ _ h => h) : wpAnyH P .any ops Q S (fuel + 1) listed a w := by
 obtain ⟨o, ho, rfl⟩ := bare_at hi
 exact wpH_pure i u ho hs hf hr hw hS hQ hv h
theorem qP {C : World → Prop} {R : Act → Prop} {o : Oper} {rest : List Oper} (u : Value) (hv : ∀ w, (execOp a.eval o).run P w = .ok (.value u) w) (h : wpQuiet P ops C R rest (a.put o.dst u)) (hw : Region.wanted o (yielded ops a.tmps) = true := by rfl) : wpQuiet P ops C R (o :: rest) a := wpQ_pure hw u hv h
theorem qN {C : World → Prop} {R : Act → Prop} {o : Oper} {rest : List Oper} (h : wpQuiet P ops C R rest (a.put o.dst undef)) (hw : Region.wanted o (yielded ops a.tmps) = false := by first | rfl | (go_simp; rfl)) : wpQuiet P ops C R (o :: rest) a := wpQ_skip hw h
theorem hN (i : Nat) (oi : Oper) (hS : S w) (h : wpAnyH P .any ops Q S fuel (listed.setIfInBounds i true) (a.put oi.dst undef) w) (hi : (ops[i]?).map bareO = some oi := by rfl) (hs : Region.noSelect ops = true := by kernel_rfl) (hf : Region.free .any ops listed i = true := by kernel_rfl) (hr : (Region.ready .any ops listed).contains i = true := by kernel_rfl)
  (hw : Region.wanted oi (yielded ops a.tmps) = false := by rfl) (hQ : ∀ c a w, Q (.panic c) (a.put oi.dst undef) w → Q (.panic c) a w := by exact fun _ _ _ h => h) : wpAnyH P .any ops Q S (fuel + 1) listed a w := by
 obtain ⟨o, ho, rfl⟩ := bare_at hi
 exact wpH_skip i ho hs hf hr hw hS hQ h
end
end Go.Proofs.YthgjdaomcpinaaaGreatDoor
namespace Go.Proofs.YthgjdaomcpinaaaGreatDoor
open Go.RowKit Pl
def SS (w : World) (v : Value) (l : List Bs) : Prop :=
 ∃ a cap, v = .slice a l.length cap ∧ l.length ≤ cap ∧ cap ≤ maxLen ∧ (l ≠ [] → ∃ g off, a = some ⟨g, off, none⟩ ∧ g < w.heap.size ∧ SSrc w g off l)
theorem SS.nil (w : World) : SS w (.slice none 0 0) [] := ⟨none, 0, rfl, Nat.le_refl _, by unfold maxLen; omega, fun h => absurd rfl h⟩
theorem SS.of {w : World} {g off cap : Nat} {l : List Bs} (h1 : l.length ≤ cap) (h2 : cap ≤ maxLen) (h3 : g < w.heap.size) (h4 : SSrc w g off l) : SS w (.slice (some ⟨g, off, none⟩) l.length cap) l :=
 ⟨_, cap, rfl, h1, h2, fun _ => ⟨g, off, rfl, h3, h4⟩⟩
theorem SRow.ss {w : World} {base : Nat} {v : Value} {l : List Bs} (h : SRow w base v l) : SS w v l := by
 rcases h.cells with ⟨rfl, rfl⟩ | ⟨g, cap, rfl, h2, h3, h4, h5, h6, h7⟩
 ·exact SS.nil w
 ·exact SS.of h4 h5 h3 (fun i hi => by rw [Nat.zero_add]; exact h6 i hi)
theorem SS.keep {W w : World} {v : Value} {l : List Bs} (h : SS W v l) (hb : Below W.heap.size W w) : SS w v l := by
 obtain ⟨a, cap, h1, h2, h3, h4⟩ := h
 refine ⟨a, cap, h1, h2, h3, fun hl => ?_⟩
 obtain ⟨g, off, e, hg, hc⟩ := h4 hl
 exact ⟨g, off, e, Nat.lt_of_lt_of_le hg hb.size, fun i hi => (hb.cell (p := ⟨g, off + i, none⟩) hg).trans (hc i hi)⟩
theorem SS.form {w : World} {v : Value} {l : List Bs} (h : SS w v l) : ∃ a c, v = .slice a l.length c := by
 obtain ⟨a, cap, h1, _⟩ := h
 exact ⟨a, cap, h1⟩
theorem SS.small {w : World} {v : Value} {l : List Bs} (h : SS w v l) : l.length ≤ 9223372036854775807 := by
 obtain ⟨a, cap, h1, h2, h3, _⟩ := h
 unfold maxLen at h3; omega
theorem SRow.keep {W w : World} {b : Nat} {v : Value} {l : List Bs} (h : SRow W b v l) (hb : Below W.heap.size W w) : SRow w b v l := by
 refine h.kept (fun k hk => hb.block k ?_)
 rcases h.cells with ⟨rfl, _⟩ | ⟨g, cap, rfl, _, hg, _⟩
 ·cases hk
 ·cases hk; exact hg
theorem SS.at' {w : World} {a : Option Addr} {c : Nat} {l : List Bs} (h : SS w (.slice a l.length c) l) (i : Nat) (hi : i < l.length) :
  ∃ g off, a = some ⟨g, off, none⟩ ∧ g < w.heap.size ∧ w.cell? ⟨g, off + i, none⟩ = some (.string ⟨List.toArray (l.getD i [])⟩) := by
 obtain ⟨a', cap, h1, _, _, h5⟩ := h
 injection h1 with h1 _ _
 obtain ⟨g, off, e, hg, hc⟩ := h5 (by intro e; rw [e] at hi; simp at hi)
 exact ⟨g, off, h1.trans e, hg, hc i hi⟩
theorem SS.at {w : World} {a : Option Addr} {c : Nat} {l : List Bs} (h : SS w (.slice a l.length c) l) (i : Nat) (hi : i < l.length) :
  ∃ g off, a = some ⟨g, off, none⟩ ∧ w.cell? ⟨g, off + i, none⟩ = some (.string ⟨List.toArray (l.getD i [])⟩) := by
 obtain ⟨g, off, e, _, hc⟩ := h.at' i hi
 exact ⟨g, off, e, hc⟩
theorem SRow.mod {w w' : World} {b p : Nat} {v : Value} {l : List Bs} (h : SRow w b v l) (hm : Mod [p] w w') (hp : p < b) : SRow w' b v l := by
 refine h.kept (fun k hk => hm.block k ?_ ?_)
 ·rcases h.cells with ⟨rfl, _⟩ | ⟨g, cap, rfl, _, hg, _⟩
  ·cases hk
  ·cases hk; exact hg
 ·have := h.own k hk
  simp; omega
theorem SRow.drewN {w : World} {b : Nat} {v : Value} {l : List Bs} (h : SRow w b v l) (n : Nat) : SRow (w.drewN n) b v l := h
theorem SRow.low {w : World} {b c : Nat} {v : Value} {l : List Bs} (h : SRow w b v l) (hc : c ≤ b) : SRow w c v l := by
 refine ⟨h.1, h.2.imp id ?_⟩
 rintro ⟨g, cap, cur, hv, h1, h2⟩
 exact ⟨g, cap, cur, hv, Nat.le_trans hc h1, h2⟩
theorem Mod.grow {l : List Nat} {a w w' : World} (h : Mod l a w) (k : Below a.heap.size w w') : Mod l a w' :=
 ⟨k.os.trans h.os, k.tape.trans h.tape, k.output.trans h.output, Nat.le_trans h.size k.size, fun i hi hn => (k.block i hi).trans (h.block i hi hn)⟩
theorem sametexts_any (u v : Value) (l m : List Bs) (w : World) (hu : SS w u l) (hv : SS w v m) :
  Calls Tryz.prog 117 #[u, v] w fun e w' => e = .returned (.bool (sameL l m)) ∧ ∃ n, w' = w.drewN n := by
 obtain ⟨a, c, rfl⟩ := hu.form
 obtain ⟨b, d, rfl⟩ := hv.form
 have hls := hu.small
 generalize hr : sameL l m = r
 have HR := Lib.hid hr
 clear hr
 by_cases hl : l.length = m.length
 ·have hl1 : ((l.length : Int) == (m.length : Int)) = true := by simp; omega
  have HL := Lib.hid hl
  clear hl
  go_enter Tryz.func117, Tryz.ntmps117
  go_wp2_with fail
  go_loopw [5, 6] (fun s5 s6 wr => ∃ (i : Nat) (q : Bool), i ≤ l.length ∧ s6 = .int .i64 i ∧ s5 = .bool q ∧ Hid ((q = true → l.take i = m.take i) ∧ (q = false → l ≠ m)) ∧ ∃ n, wr = w.drewN n) (fun _ s6 _ => l.length - (intOf s6).toNat)
  case atStart => exact ⟨0, true, by omega, rfl, rfl, Lib.hid ⟨fun _ => rfl, fun h => by cases h⟩, 0, rfl⟩
  case round =>
   obtain ⟨i, q, hi, rfl, rfl, HQ, nq, rfl⟩ := hrel
   cases q
   ·have HZ : Hid (r = false) := Lib.hid (by rw [← HR.out]; simp [sameL, HQ.out.2 rfl])
    clear HQ
    go_wp2_with fail
    go_ret
    exact ⟨by rw [HZ.out]; rfl, nq, rfl⟩
   ·by_cases hlt : i < l.length
    ·have hlt' : (i : Int) < (l.length : Int) := by omega
     have hlm : i < m.length := by rw [← HL.out]; exact hlt
     have hlm' : (i : Int) < (m.length : Int) := by omega
     obtain ⟨g, off, rfl, c1⟩ := hu.at i hlt
     obtain ⟨g2, off2, rfl, c2⟩ := hv.at i hlm
     have HS : Hid (l.take (i + 1) = m.take (i + 1) ↔ l.getD i [] = m.getD i []) := Lib.hid (by
      rw [List.take_succ_eq_append_getElem hlt, List.take_succ_eq_append_getElem hlm, HQ.out.1 rfl, List.append_cancel_left_eq]
      simp [List.getD, List.getElem?_eq_getElem hlt, List.getElem?_eq_getElem hlm])
     have HD : Hid (l.getD i [] ≠ m.getD i [] → l ≠ m) := Lib.hid (fun h e => h (by rw [e]))
     generalize l.getD i [] = x at *
     generalize m.getD i [] = y at *
     have HU := Lib.hid hu
     have HV := Lib.hid hv
     clear hu hv
     go_wp2_with fail
     go_quiet (fail)
     go_wp2_with fail
     exact ⟨⟨i + 1, x == y, by omega, by go_num, rfl, Lib.hid ⟨fun h => HS.out.2 (by simpa using h), fun h => HD.out (by simpa using h)⟩, _, rfl⟩, by simp [intOf]; omega⟩
    ·have hie : i = l.length := by omega
     have hd : decide ((i : Int) < (l.length : Int)) = false := by simp; omega
     have HZ : Hid (r = true) := Lib.hid (by
      have h := HQ.out.1 rfl
      rw [List.take_of_length_le (by omega), List.take_of_length_le (by rw [← HL.out]; omega)] at h
      rw [← HR.out]
      simp [sameL, h])
     clear HQ
     go_wp2_with fail
     go_ret
     exact ⟨by rw [HZ.out]; rfl, nq, rfl⟩
 ·have hl1 : ((l.length : Int) == (m.length : Int)) = false := by simp; omega
  have HZ : Hid (r = false) := Lib.hid (by rw [← HR.out]; simp [sameL]; intro e; exact hl (by rw [e]))
  clear hl
  go_enter Tryz.func117, Tryz.ntmps117
  go_wp2_with fail
  go_loopw [5, 6] (fun s5 s6 wr => s6 = .int .i64 0 ∧ s5 = .bool false ∧ wr = w) (fun _ s6 _ => 0)
  case atStart => exact ⟨rfl, rfl, rfl⟩
  case round =>
   obtain ⟨rfl, rfl, rfl⟩ := hrel
   go_wp2_with fail
   go_ret
   exact ⟨by rw [HZ.out]; rfl, 0, rfl⟩
theorem spoil_any (base : Nat) (v : Value) (l : List Bs) (w : World) (hv : SRow w base v l) :
  Calls Tryz.prog 96 #[v] w fun e w' => e = .returned (.tuple #[]) ∧ Mod v.ownBlock.toList w w' := by
 rcases hv.cells with ⟨rfl, rfl⟩ | ⟨g, cap, rfl, h1, h2, h3, h4, h5, h6⟩
 ·go_enter Tryz.func96, Tryz.ntmps96
  go_wp2_with fail
  go_loopw [2] (fun s2 wr => s2 = .int .i64 0 ∧ wr = w) (fun s2 _ => 0)
  case atStart => exact ⟨rfl, rfl⟩
  case round =>
   obtain ⟨rfl, rfl⟩ := hrel
   go_wp2_with fail
   refine bodyPost_end (results_none rfl _ _ _) rfl ?_
   exact ⟨rfl, Mod.refl _ _⟩
 ·unfold maxLen at h4
  have H5 := Lib.hid h5
  have H6 := Lib.hid h6
  clear h5 h6 hv
  go_enter Tryz.func96, Tryz.ntmps96
  go_wp2_with fail
  go_loopw [2] (fun s2 wr => ∃ i : Nat, i ≤ l.length ∧ s2 = .int .i64 i ∧ Hid (∀ j, j < l.length → ∃ x : Value, wr.cell? ⟨g, j, none⟩ = some x) ∧ Hid (∀ o, wr.frozen? ⟨g, o, none⟩ = false) ∧ Mod [g] w wr) (fun s2 _ => l.length - (intOf s2).toNat)
  case atStart => exact ⟨0, by omega, rfl, Lib.hid (fun j hj => ⟨_, H5.out j hj⟩), H6, Mod.refl _ _⟩
  case round =>
   obtain ⟨i, hi, rfl, HC, HF, hm⟩ := hrel
   by_cases hlt : i < l.length
   ·have hlt' : (i : Int) < (l.length : Int) := by omega
    obtain ⟨x, hx⟩ := HC.out i hlt
    have hf := HF.out i
    go_wp2_with fail
    refine ⟨⟨i + 1, by omega, by go_num, Lib.hid (fun j hj => ?_), Lib.hid (fun o => by rw [World.frozen?_setCell]; exact HF.out o), hm.setCell (.inl (by simp)) _⟩, by simp [intOf]; omega⟩
    by_cases e : j = i
    ·subst e; exact ⟨_, World.cell?_setCell_same _ _ _ hx⟩
    ·obtain ⟨y, hy⟩ := HC.out j hj
     exact ⟨y, by rw [World.cell?_setCell_other _ _ _ _ (fun h => e (by injection h with _ h2 _; exact h2.symm))]; exact hy⟩
   ·have hlt' : ¬ (i : Int) < (l.length : Int) := by omega
    go_wp2_with fail
    refine bodyPost_end (results_none rfl _ _ _) rfl ?_
    exact ⟨rfl, hm⟩
end Go.Proofs.YthgjdaomcpinaaaGreatDoor
namespace Go.Proofs.YthgjdaomcpinaaaGreatDoor
open Go.RowKit Pl
theorem Below.nm {B : Nat} {a w : World} (_ : Below B a w) : ∃ w' : World, w' = w := ⟨w, rfl⟩
def leS (a b : Bs) : Bool := Op.bytesLess a b || a == b
@[go_sem high] theorem leq_S (t : TypeId) (a b : Bs) : binOp .leq t (.string ⟨List.toArray a⟩) (.string ⟨List.toArray b⟩) = pure (.bool (leS a b)) := by
 rw [binOp_string_leq]
 unfold leS
 rw [Lib.toList_data, Lib.toList_data]
def MSrc (w : World) (g o : Nat) (l : List (Bs × Int)) : Prop := ∀ i, i < l.length → w.cell? ⟨g, o + i * 2, none⟩ = some (.string ⟨List.toArray ((l.getD i ([], 0)).1)⟩) ∧ w.cell? ⟨g, o + i * 2 + 1, none⟩ = some (.int .i64 ((l.getD i ([], 0)).2))
def MS (w : World) (v : Value) (l : List (Bs × Int)) : Prop :=
 ∃ a cap, v = .slice a l.length cap ∧ l.length ≤ cap ∧ cap ≤ maxLen ∧ (l ≠ [] → ∃ g off, a = some ⟨g, off, none⟩ ∧ g < w.heap.size ∧ MSrc w g off l)
theorem MS.keep {W w : World} {v : Value} {l : List (Bs × Int)} (h : MS W v l) (hb : Below W.heap.size W w) : MS w v l := by
 obtain ⟨a, cap, h1, h2, h3, h4⟩ := h
 refine ⟨a, cap, h1, h2, h3, fun hl => ?_⟩
 obtain ⟨g, off, e, hg, hc⟩ := h4 hl
 exact ⟨g, off, e, Nat.lt_of_lt_of_le hg hb.size, fun i hi => ⟨(hb.cell (p := ⟨g, off + i * 2, none⟩) hg).trans (hc i hi).1, (hb.cell (p := ⟨g, off + i * 2 + 1, none⟩) hg).trans (hc i hi).2⟩⟩
theorem MS.form {w : World} {v : Value} {l : List (Bs × Int)} (h : MS w v l) : ∃ a c, v = .slice a l.length c := by
 obtain ⟨a, cap, h1, _⟩ := h
 exact ⟨a, cap, h1⟩
theorem MS.small {w : World} {v : Value} {l : List (Bs × Int)} (h : MS w v l) : l.length ≤ 9223372036854775807 := by
 obtain ⟨a, cap, h1, h2, h3, _⟩ := h
 unfold maxLen at h3; omega
theorem MS.at {w : World} {a : Option Addr} {c : Nat} {l : List (Bs × Int)} (h : MS w (.slice a l.length c) l) (i : Nat) (hi : i < l.length) :
  ∃ g off, a = some ⟨g, off, none⟩ ∧ g < w.heap.size ∧ w.cell? ⟨g, off + i * 2, none⟩ = some (.string ⟨List.toArray ((l.getD i ([], 0)).1)⟩) ∧ w.cell? ⟨g, off + i * 2 + 1, none⟩ = some (.int .i64 ((l.getD i ([], 0)).2)) := by
 obtain ⟨a', cap, h1, _, _, h5⟩ := h
 injection h1 with h1 _ _
 obtain ⟨g, off, e, hg, hc⟩ := h5 (by intro e; rw [e] at hi; simp at hi)
 exact ⟨g, off, h1.trans e, hg, (hc i hi).1, (hc i hi).2⟩
namespace Pl
def okM : Bs → List (Bs × Int) → Bool
 | _, [] => true
 | z, (n, p) :: r => !(decide ((6 : Int) < (n.length : Int)) || leS n z || decide (p < 1) || decide (1000 < p)) && okM n r
def chkM (l : List (Bs × Int)) : Bool := decide (l.length ≠ 0) && decide (l.length ≤ 7) && okM [] l
def setI (b : Bool) : Int := if b then 0 else 50
def lastN (l : List (Bs × Int)) : Nat → Bs
 | 0 => []
 | i + 1 => (l.getD i ([], 0)).1
theorem drop_getD (l : List (Bs × Int)) (i : Nat) (hi : i < l.length) : l.drop i = l.getD i ([], 0) :: l.drop (i + 1) := by
 rw [List.drop_eq_getElem_cons hi, List.getD_eq_getElem?_getD, List.getElem?_eq_getElem hi]
 rfl
theorem okM_at : ∀ (l : List (Bs × Int)) (z : Bs), okM z l = true → ∀ i, i < l.length → (l.getD i ([], 0)).1.length ≤ 6 ∧ 1 ≤ (l.getD i ([], 0)).2 ∧ (l.getD i ([], 0)).2 ≤ 1000
 | (n, p) :: r, z, h, i, hi => by
  simp only [okM, Bool.and_eq_true, Bool.not_eq_true', Bool.or_eq_false_iff, decide_eq_false_iff_not] at h
  obtain ⟨⟨⟨⟨h1, h2⟩, h3⟩, h4⟩, h5⟩ := h
  match i with
  | 0 => exact ⟨by simp; omega, by simp; omega, by simp; omega⟩
  | j + 1 => exact okM_at r n h5 j (by simpa using hi)
theorem take_getD (l : List (Bs × Int)) (i : Nat) (hi : i < l.length) : l.take (i + 1) = l.take i ++ [l.getD i ([], 0)] := by
 rw [List.take_add_one, List.getElem?_eq_getElem hi, List.getD_eq_getElem?_getD, List.getElem?_eq_getElem hi]
 rfl
theorem dropS (l : List Bs) (i : Nat) (hi : i < l.length) : l.drop i = l.getD i [] :: l.drop (i + 1) := by
 rw [List.drop_eq_getElem_cons hi, List.getD_eq_getElem?_getD, List.getElem?_eq_getElem hi]
 rfl
end Pl
theorem mcheck_any (v : Value) (l : List (Bs × Int)) (w : World) (hv : MS w v l) :
  Calls Tryz.prog 66 #[v] w fun e w' => e = .returned (.int .i64 (setI (chkM l))) ∧ Below w.heap.size w w' := by
 generalize hr : setI (chkM l) = r
 have HR := Lib.hid hr
 clear hr
 obtain ⟨a, c, rfl⟩ := hv.form
 have hm := hv.small
 have HV := Lib.hid hv
 by_cases h0 : l.length = 0
 ·rw [h0]
  clear HV hv
  go_enter Tryz.func66, Tryz.ntmps66
  go_wp2_with fail
  all_goals (go_ret; refine ⟨?_, Below.refl _ _⟩; rw [← HR.out]; simp [chkM, h0, setI])
 ·by_cases h7 : 7 < l.length
  ·have hd : decide ((7 : Int) < (l.length : Int)) = true := by simp; omega
   have hd0 : ((l.length : Int) == 0) = false := by rw [beq_eq_false_iff_ne]; omega
   clear HV hv
   go_enter Tryz.func66, Tryz.ntmps66
   go_wp2_with fail
   all_goals (go_ret; refine ⟨?_, Below.refl _ _⟩; rw [← HR.out]; have : ¬ l.length ≤ 7 := (by omega); simp [chkM, this, setI])
  ·have hd : decide ((7 : Int) < (l.length : Int)) = false := by simp; omega
   have hd0 : ((l.length : Int) == 0) = false := by rw [beq_eq_false_iff_ne]; omega
   have HR2 : Hid (setI (okM [] l) = r) := Lib.hid (by rw [← HR.out]; have : l.length ≤ 7 := (by omega); simp [chkM, this, h0])
   clear HR hv h0
   go_enter Tryz.func66, Tryz.ntmps66
   go_wp2_with fail
   go_loopw [3, 16] (fun s3 s16 wr => ∃ i : Nat, i ≤ l.length ∧ s16 = .int .i64 i ∧ s3 = .string ⟨List.toArray (lastN l i)⟩ ∧ Hid (setI (okM (lastN l i) (l.drop i)) = r) ∧ Below w.heap.size w wr) (fun _ s16 _ => l.length - (intOf s16).toNat)
   case atStart => exact ⟨0, by omega, rfl, rfl, HR2, Below.refl _ _⟩
   case round =>
    obtain ⟨i, hi, rfl, rfl, HI, hb⟩ := hrel
    obtain ⟨wq, h⟩ := Below.nm hb
    subst h
    by_cases hlt : i < l.length
    ·obtain ⟨g, off, rfl, hg, c1, c2⟩ := (HV.out.keep hb).at i hlt
     have hi2 := HI.out
     rw [drop_getD l i hlt] at hi2
     have hnx : lastN l (i + 1) = (l.getD i ([], 0)).1 := rfl
     generalize hx : l.getD i ([], 0) = x at *
     obtain ⟨n, p⟩ := x
     simp only at c1 c2 hnx
     unfold okM at hi2
     generalize lastN l i = z at *
     go_wp2_with fail
     all_goals first
      | (refine ⟨⟨i + 1, by omega, by go_num, by rw [hnx], Lib.hid ?_, Below.allocS hb _⟩, by simp [intOf]; omega⟩
         rw [hnx, ← hi2]
         simp_all [setI])
      | (go_ret; refine ⟨?_, Below.allocS hb _⟩; rw [← hi2]; simp_all [setI] <;> (rw [if_neg (by omega)] at hi2; exact hi2))
    ·obtain rfl : i = l.length := by omega
     go_wp2_with fail
     all_goals (go_ret; refine ⟨?_, hb⟩; rw [← HI.out]; simp [okM, setI])
end Go.Proofs.YthgjdaomcpinaaaGreatDoor
