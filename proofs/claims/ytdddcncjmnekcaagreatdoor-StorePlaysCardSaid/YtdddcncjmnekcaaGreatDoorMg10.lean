/- Held, Store, Ref2, Ref2R, RefL, MEnc, MRef, Cert. -/
import Derived.Test.YtdddcncjmnekcaaGreatDoorRows
import Derived.Sort.KeysCollected
import Derived.Lib.OwnKind
import Derived.Test.YtdddcncjmnekcaaGreatDoorMg1
import Derived.Test.YtdddcncjmnekcaaGreatDoorMg3
import Derived.Test.YtdddcncjmnekcaaGreatDoorMg4
import Derived.Test.YtdddcncjmnekcaaGreatDoorMg5
import Derived.Test.YtdddcncjmnekcaaGreatDoorMg8
import Derived.Test.YtdddcncjmnekcaaGreatDoorMg9
set_option linter.unnecessarySimpa false

/- General tools for walks through drawn regions. -/
set_option linter.unusedSimpArgs false
set_option linter.unusedVariables false
namespace Go.Proofs.YtdddcncjmnekcaaGreatDoor
open Go.RowKit

theorem hold_and {a b : Prop} (h : a) (k : a → b) : a ∧ b := ⟨h, k h⟩
theorem wp_loads {P : Program} {o : Oper} {a : Act} {w : World} {K : Act → World → Prop} {Q : Exit → Act → World → Prop} (u : Value) (hv : (execOp a.eval o).run P w = .ok (.value u) w) (h : K (a.put o.dst u) w) : o.wp P a w K Q := by
  unfold Oper.wp
  rw [hv]
  exact h
theorem wpH_startB {P : Program} {id : Nat} {ops : Array Oper} {Q : Exit → Act → World → Prop} {a : Act} {w : World} (B : Nat) (hm : P.follows .mixedOrders = true)
    (h : Below B w w.drew → wpAnyH P .any ops Q (Below B w) ops.size (Array.replicate ops.size false) a w.drew) : (Code.region id ops true).wp P Q a w :=
  wp_region_held_drew hm (Below.refl _ _).drew h


theorem wpO_op {P : Program} {ops : Array Oper} {Q : Exit → Act → World → Prop} {a : Act} {w : World} {K : Act → World → Prop} {i : Nat} {oi : Oper} (hi : ops[i]? = some oi) (hw : Region.wanted oi (yielded ops a.tmps) = true) (h : oi.wp P a w K Q) : wpOp P ops Q i K a w := by
  unfold wpOp
  simp only [hi, hw, if_true]
  exact .inl h
theorem wpO_call {P : Program} {ops : Array Oper} {Q : Exit → Act → World → Prop} {S : World → Prop} {a : Act} {w : World} {K : Act → World → Prop} {i : Nat} {oi : Oper} (hi : ops[i]? = some oi) (hw : Region.wanted oi (yielded ops a.tmps) = true) {f : FuncId} {args : Array Value} {R : Ending → World → Prop} (hc : Calls P f args w R)
    (hv : (execOp a.eval oi).run P w = .ok (.enter f args) w) (h : ∀ e w', R e w' → ∃ v, e = .returned v ∧ S w' ∧ K (a.put oi.dst v) w') : wpOp P ops Q i (fun a' w' => S w' ∧ K a' w') a w := by
  unfold wpOp
  simp only [hi, hw, if_true]
  refine .inl ?_
  unfold Oper.wp
  rw [hv, Oper.upon_enter]
  refine hc.mono fun e w' hR => ?_
  obtain ⟨v, rfl, h1, h2⟩ := h e w' hR
  exact ⟨h1, h2⟩
/-- A post of the normal exit alone. -/
def NormQ (R : Act → World → Prop) : Exit → Act → World → Prop
  | .normal, a, w => R a w
  | _, _, _ => False
theorem wp_region_ex {P : Program} {c : Code} {Q : Exit → Act → World → Prop} {a : Act} {w : World} {ι : Type} (f : ι → Act → Act) (F : ι → World → Prop) (h : c.wp P (NormQ fun a' w' => ∃ i, a' = f i a ∧ F i w') a w) (k : ∀ i w', F i w' → Q .normal (f i a) w') : c.wp P Q a w :=
  Code.wp_mono (fun e a' w' hq => by
    cases e
    case normal =>
      obtain ⟨i, ha, hF⟩ : ∃ i, a' = f i a ∧ F i w' := hq
      subst ha
      exact k i w' hF
    all_goals exact absurd hq id) h
/-- A new block of zeros, its number a name. -/
theorem wp_allocK {P : Program} {o : Oper} {a : Act} {w : World} {K : Act → World → Prop} {Q : Exit → Act → World → Prop} (t : TypeId) (ho : o.op = .alloc t) (z : Array Value) (hz : ∀ w : World, (execOp a.eval o).run P w = .ok (.value (.pointer (some ⟨w.heap.size, 0, none⟩))) (w.alloc (.cells z t)))
    (h : ∀ k w', w.heap.size ≤ k → Blk w' k z → Below w.heap.size w w' → K (a.put o.dst (.pointer (some ⟨k, 0, none⟩))) w') : o.wp P a w K Q := by
  unfold Oper.wp
  rw [hz w]
  exact h _ _ (Nat.le_refl _) (Blk.new _ _ _) (Below.allocS (Below.refl _ _) _)
/-- A new block, its number a name. -/
theorem wp_newK {P : Program} {o : Oper} {a : Act} {w : World} {K : Act → World → Prop} {Q : Exit → Act → World → Prop} (t : TypeId) (z : Array Value) (u : Nat → Value) (hz : ∀ w : World, (execOp a.eval o).run P w = .ok (.value (u w.heap.size)) (w.alloc (.cells z t)))
    (h : ∀ k w', w.heap.size ≤ k → w'.heap[k]? = some (.cells z t) → k < w'.heap.size → Below w.heap.size w w' → K (a.put o.dst (u k)) w') : o.wp P a w K Q := by
  unfold Oper.wp
  rw [hz w]
  exact h _ _ (Nat.le_refl _) (heap_alloc_new w _) (by simp) (Below.allocS (Below.refl _ _) _)
theorem Blk.of_heap {w : World} {k : Nat} {z : Array Value} {t : TypeId} (hh : w.heap[k]? = some (.cells z t)) (hk : k < w.heap.size) : Blk w k z :=
  ⟨fun o => by simp [World.cell?, hh], fun o => by simp [World.frozen?, hh], hk⟩
end Go.Proofs.YtdddcncjmnekcaaGreatDoor

/- A store of texts by their sums: New, Put, Get. -/
set_option linter.unusedSimpArgs false
set_option linter.unusedVariables false
namespace Go.Proofs.YtdddcncjmnekcaaGreatDoor
open Go.RowKit Go.WideMaps Go.Maps Go.Sort Pl

abbrev nilV : Value := .slice none 0 0
/-- An element of the map is held as it is. -/
def hR (v : Value) : Option (DataW Value × List MemPlace) := some (.held v, [])
theorem hR_inv {v u : Value} {ps : List MemPlace} (h : hR v = some (.held u, ps)) : v = u := by
  unfold hR at h
  injection h with h
  injection h with h _
  injection h
/-- v is a slice of a block of bytes of its own, with this text. -/
def BTx (w : World) (base : Nat) (v : Value) (t : Bs) : Prop :=
  ∃ g cap c fz, v = .slice (some ⟨g, 0, none⟩) t.length cap ∧ base ≤ g ∧ g < w.heap.size ∧ w.heap[g]? = some (Obj.cells c 5 fz) ∧ ∀ i, i < t.length → w.cell? ⟨g, i, none⟩ = some (.int .u8 ((t.getD i 0).toNat : Int))
theorem BTx.kept {w w' : World} {base : Nat} {v : Value} {t : Bs} (h : BTx w base v t) (hs : w.heap.size ≤ w'.heap.size) (hk : ∀ (g : Nat) c fz, w.heap[g]? = some (Obj.cells c 5 fz) → w'.heap[g]? = w.heap[g]?) : BTx w' base v t := by
  obtain ⟨g, cap, c, fz, h1, h2, h3, h4, h5⟩ := h
  have hg := hk g c fz h4
  exact ⟨g, cap, c, fz, h1, h2, by omega, hg.trans h4, fun i hi => (World.cell?_of_block (a := ⟨g, i, none⟩) hg).trans (h5 i hi)⟩
theorem BTx.conv {w : World} {base : Nat} {v : Value} {t : Bs} (h : BTx w base v t) : (convert 53 9 v).run Tryz.prog w = .ok (.string ⟨List.toArray (t)⟩) w := by
  obtain ⟨g, cap, c, fz, rfl, h2, h3, h4, h5⟩ := h
  exact conv_str 53 5 9 Tryz.underlying53 Tryz.underlying5 Tryz.underlying9 g 0 t.length cap t rfl (fun i hi => by simpa using h5 i hi)
theorem run_conv_btx (w : World) (s : Bs) (hs : s.length ≤ maxLen) :
    ∃ v w', (convert 9 53 (.string ⟨List.toArray (s)⟩)).run Tryz.prog w = .ok v w' ∧ BTx w' w.heap.size v s ∧ Below w.heap.size w w' := by
  have hr := Lib.run_convert_string_bytes (P := Tryz.prog) w 9 53 5 ⟨s.toArray⟩ Tryz.underlying9 Tryz.underlying53 Tryz.underlying5
  have hz := bs_size s
  rw [hz] at hr
  refine ⟨_, _, hr, ⟨w.heap.size, _, _, _, rfl, Nat.le_refl _, by rw [Lib.bytesWorld_size]; omega, Lib.bytesWorld_at_new w 5 ⟨s.toArray⟩, fun i hi => Lib.bytesWorld_cell w 5 ⟨s.toArray⟩ i (by rw [hz]; exact hi)⟩, ⟨rfl, rfl, rfl, by rw [Lib.bytesWorld_size]; omega, fun k hk => Lib.bytesWorld_at_old w _ _ k (by omega)⟩⟩
theorem wpList_convT {ops : Array Oper} {o : Oper} {rest : List Oper} {a : Act} {w : World} {Q : Exit → Act → World → Prop} (hgd : o.guard = none) (x : Operand) (ho : o.op = .convert 9 53 x) (s : Bs) (hx : a.eval x = .string ⟨List.toArray (s)⟩) (hs : s.length ≤ maxLen)
    (h : ∀ v' w', BTx w' w.heap.size v' s → Below w.heap.size w w' → wpList Tryz.prog ops Q rest (a.put o.dst v') w') : wpList Tryz.prog ops Q (o :: rest) a w := by
  refine wpList_plain hgd fun K hK => ?_
  obtain ⟨v, w', hr, h2, h3⟩ := run_conv_btx w s hs
  unfold Oper.wp execOp
  simp only [ho, hx, Sem.run_bind, Sem.run_pure, Result.andThen_ok, hr]
  exact hK _ _ (h v w' h2 h3)

abbrev Ent := Bs × Bs
def keysE (T : List Ent) : List Bs := T.map (·.1)
/-- What a map of texts holds. -/
structure StoD (w : World) (base : Nat) (D : DataW Value) (T : List Ent) : Prop where
  has : ∀ k : Bs, Maps.has D (.string k) = decide (k ∈ keysE T)
  val : ∀ e ∈ T, ∃ v, D.atKey (.string e.1) (.held nilV) = .held v ∧ BTx w base v e.2
  nodup : (keysE T).Nodup
  size : Maps.size D = T.length
/-- A store: a pointer to a struct with a map. -/
structure Sto (w : World) (base p b : Nat) (T : List Ent) : Prop where
  hp : base ≤ p
  hb : base ≤ b
  cell : w.heap[p]? = some (Obj.cells #[.map (some b)] 45)
  lt : p < w.heap.size
  own : ∃ D, w.ownsMap Tryz.prog 9 hR b T.length D ∧ StoD w base D T
/-- A block of a store's kinds. -/
def StoK (w : World) (k : Nat) : Prop := (∃ es c, w.heap[k]? = some (Obj.map es c)) ∨ (∃ c fz, w.heap[k]? = some (Obj.cells c 5 fz)) ∨ (∃ c fz, w.heap[k]? = some (Obj.cells c 45 fz))
section
variable {w w' : World} {base p b : Nat} {T : List Ent}
theorem Sto.blk (h : Sto w base p b T) : Blk w p #[.map (some b)] := Blk.of_heap h.cell h.lt
theorem Sto.blt (h : Sto w base p b T) : b < w.heap.size := by
  obtain ⟨D, ho, _⟩ := h.own
  exact ho.lt
theorem StoD.kept {D : DataW Value} (h : StoD w base D T) (hs : w.heap.size ≤ w'.heap.size) (hk : ∀ (g : Nat) c fz, w.heap[g]? = some (Obj.cells c 5 fz) → w'.heap[g]? = w.heap[g]?) : StoD w' base D T :=
  ⟨h.has, fun e he => by obtain ⟨v, h1, h2⟩ := h.val e he; exact ⟨v, h1, h2.kept hs hk⟩, h.nodup, h.size⟩
theorem Sto.kept (h : Sto w base p b T) (hs : w.heap.size ≤ w'.heap.size) (hk : ∀ k, StoK w k → w'.heap[k]? = w.heap[k]?) : Sto w' base p b T := by
  obtain ⟨D, ho, hD⟩ := h.own
  have hp := hk p (.inr (.inr ⟨_, _, h.cell⟩))
  have hb : w'.heap[b]? = w.heap[b]? := by
    obtain ⟨es, c, h1, _⟩ := ho
    exact hk b (.inl ⟨es, c, h1⟩)
  exact ⟨h.hp, h.hb, hp.trans h.cell, by have := h.lt; omega, D, ownsMap_at ho hb, hD.kept hs (fun g c fz hg => hk g (.inr (.inl ⟨c, fz, hg⟩)))⟩
theorem stok_lt {k : Nat} (h : StoK w k) : k < w.heap.size := by
  rcases Nat.lt_or_ge k w.heap.size with hlt | hge
  · exact hlt
  · rcases h with ⟨_, _, h⟩ | ⟨_, _, h⟩ | ⟨_, _, h⟩ <;> (rw [Array.getElem?_eq_none hge] at h; cases h)
theorem Sto.keep (h : Sto w base p b T) (hb : Below w.heap.size w w') : Sto w' base p b T :=
  h.kept hb.size (fun k hk => hb.block k (stok_lt hk))
/-- A row of texts has grown. -/
theorem Sto.grown {r : Option Nat} (h : Sto w base p b T) (hg : w.grownBy w' r) (hr : ∀ k, r = some k → ∃ c fz, w.heap[k]? = some (Obj.cells c 9 fz)) : Sto w' base p b T := by
  refine h.kept hg.size (fun k hk => hg.block k (stok_lt hk) (fun e => ?_))
  obtain ⟨c, fz, hc⟩ := hr k e.symm
  rcases hk with ⟨_, _, h⟩ | ⟨_, _, h⟩ | ⟨_, _, h⟩
  · rw [hc] at h; cases h
  · rw [hc] at h; injection h with h; injection h with _ h _; exact absurd h (by decide)
  · rw [hc] at h; injection h with h; injection h with _ h _; exact absurd h (by decide)
/-- Another map has turned. -/
theorem Sto.turned {b2 : Nat} (h : Sto w base p b T) (hg : w.grownBy w' (some b2)) (hm : ∃ es c, w.heap[b2]? = some (Obj.map es c)) (hne : b ≠ b2) : Sto w' base p b T := by
  obtain ⟨D, ho, hD⟩ := h.own
  obtain ⟨es, c, hm⟩ := hm
  have hp : w'.heap[p]? = w.heap[p]? := hg.block p h.lt (fun e => by injection e with e; subst e; have := h.cell; rw [hm] at this; cases this)
  exact ⟨h.hp, h.hb, hp.trans h.cell, by have := h.lt; have := hg.size; omega, D, ownsMap_at ho (hg.block b ho.lt (fun e => hne (by injection e))), hD.kept hg.size (fun g c' fz hg' => hg.block g (stok_lt (.inr (.inl ⟨c', fz, hg'⟩))) (fun e => by injection e with e; subst e; rw [hm] at hg'; cases hg'))⟩
end
/-- A text comes. -/
def putT (T : List Ent) (t : Bs) : List Ent := if tagP 1 t ∈ keysE T then T else T ++ [(tagP 1 t, t)]
/-- The text of a sum. -/
def getT (T : List Ent) (k : Bs) : Option Bs := (T.find? (fun e => e.1 == k)).map (·.2)
theorem get_some {T : List Ent} (hn : (keysE T).Nodup) {e : Ent} (he : e ∈ T) : getT T e.1 = some e.2 := by
  induction T with
  | nil => cases he
  | cons x r ih =>
    unfold keysE at hn
    rw [List.map_cons, List.nodup_cons] at hn
    unfold getT
    rcases List.mem_cons.1 he with rfl | he
    · simp
    · have hne : (x.1 == e.1) = false := by
        rw [beq_eq_false_iff_ne]
        intro h
        exact hn.1 (by rw [h]; exact List.mem_map.2 ⟨e, he, rfl⟩)
      rw [List.find?_cons_of_neg (by rw [hne]; simp)]
      exact ih hn.2 he
theorem get_none {T : List Ent} {k : Bs} (h : k ∉ keysE T) : getT T k = none := by
  unfold getT
  rw [List.find?_eq_none.2 (fun x hx => by
    intro e
    exact h (List.mem_map.2 ⟨x, hx, by simpa using e⟩))]
  rfl
theorem keyS (k : Bs) (h : k.length ≤ maxLen) : keyOf Tryz.prog 9 (.string ⟨List.toArray (k)⟩) = some (.string k) := keyOf_string_mk Tryz.underlying9 (by simpa [ByteArray.size] using h)
theorem isKeyS (k : Bs) : WideAt.IsKeyLit (.string k) := by first | trivial | exact ⟨_, rfl⟩ | simp [WideAt.IsKeyLit]
end Go.Proofs.YtdddcncjmnekcaaGreatDoor

/- Walks of the document's answer for layer 2. -/
set_option linter.unusedSimpArgs false
set_option linter.unusedVariables false
namespace Go.Proofs.YtdddcncjmnekcaaGreatDoor
open Go.RowKit Pl

set_option maxHeartbeats 1000000 in
theorem rNumber_any (n : Nat) (hn : n < 9223372036854775808) (w : World) :
    Calls Tryz.prog 85 #[.int .i64 (n)] w fun e w' => e = .returned (.string ⟨List.toArray (num n)⟩) ∧ Below w.heap.size w w' := by
  go_enter Tryz.func85, Tryz.ntmps85
  go_wp2_with fail
  go_loopw [0, 3] (fun s0 s3 wr => ∃ (k m : Nat) (d : Bs), d.length + k = 8 ∧ m < 256 ^ k ∧ m < 9223372036854775808 ∧ Hid (digs 8 n = digs k m ++ d) ∧ s0 = .int .i64 m ∧ s3 = .string ⟨List.toArray (d)⟩ ∧ Below w.heap.size w wr)
    (fun s0 _ _ => (intOf s0).toNat)
  case atStart =>
    exact ⟨8, n, [], rfl, by omega, hn, Lib.hid (by simp), rfl, rfl, Below.refl _ _⟩
  case round =>
    obtain ⟨k, m, d, hd, hm, hm2, HD, rfl, rfl, hb⟩ := hrel
    have hcat : ¬ 9223372036854775807 < 1 + d.length := by omega
    by_cases h0 : 0 < m
    · obtain ⟨j, rfl⟩ : ∃ j, k = j + 1 := by
        rcases Nat.eq_zero_or_pos k with h | h
        · subst h; omega
        · exact ⟨k - 1, by omega⟩
      go_wp2_with fail
      refine ⟨⟨j, m / 256, UInt8.ofNat (m % 256) :: d, by simp at hd ⊢; omega, by rw [Nat.pow_succ] at hm; omega, by omega, ?_, by go_num, ?_, by (repeat (first | exact Below.refl _ _ | assumption | apply Below.drew | apply below_drewN | apply Below.allocS | (refine Below.setCell ?_ (by simp <;> omega) _) | (refine Below.alloc ?_ (by simp <;> omega) _) | (refine Below.trans ?_ (Below.mono (by assumption) (by simp <;> omega)))))⟩, by simp [intOf]; omega⟩
      · refine Lib.hid ?_
        rw [HD.out, digs_step _ _ h0, List.append_assoc]; rfl
      · refine str_eq ?_
        simp
    · have hm0 : m = 0 := by omega
      subst hm0
      have hfin : num n = UInt8.ofNat d.length :: d := by
        unfold num
        rw [HD.out, digs_zero, List.nil_append]
      have HF := Lib.hid hfin
      clear hfin
      have hdl : (d.length : Int) ≤ 8 := by omega
      go_wp2_with fail
      go_ret
      exact ⟨by rw [HF.out]; rfl, by (repeat (first | exact Below.refl _ _ | assumption | apply Below.drew | apply below_drewN | apply Below.allocS | (refine Below.setCell ?_ (by simp <;> omega) _) | (refine Below.alloc ?_ (by simp <;> omega) _) | (refine Below.trans ?_ (Below.mono (by assumption) (by simp <;> omega)))))⟩

theorem rText_any (s : Bs) (hs : s.length < 9223372036854775000) (w : World) :
    Calls Tryz.prog 67 #[.string ⟨List.toArray (s)⟩] w fun e w' => e = .returned (.string ⟨List.toArray (text s)⟩) ∧ Below w.heap.size w w' := by
  have hl := num_len s.length
  have hcat : ¬ 9223372036854775807 < (num s.length).length + s.length := by omega
  go_enter Tryz.func67, Tryz.ntmps67
  go_wp2_with fail
  refine (rNumber_any s.length (by omega) _).mono ?_
  rintro e w1 ⟨rfl, hb⟩
  go_wp2_with fail
  go_ret
  exact ⟨rfl, hb⟩

theorem rtake_nil (w : World) : Calls Tryz.prog 84 #[.string ⟨List.toArray ([])⟩] w fun e w' => e = .returned (.tuple #[.int .i64 (0), .string ⟨List.toArray ([])⟩, .int .i64 (20)]) ∧ ∃ n, w' = w.drewN n := by
  go_enter Tryz.func84, Tryz.ntmps84
  go_wp2_with fail
  go_ret3
  exact ⟨rfl, 0, rfl⟩

theorem take_cons' (k : UInt8) (r : Bs) : Pl.take (k :: r) = (if 8 < k.toNat then (0, [], 3)
    else if r.length < k.toNat then (0, [], 20)
    else if (0 < k.toNat ∧ r.headD 0 = 0) ∨ (k.toNat = 8 ∧ 127 < (r.headD 0).toNat) then (0, [], 3)
    else (be (r.take k.toNat), r.drop k.toNat, 0)) := rfl

set_option maxRecDepth 100000 in
set_option maxHeartbeats 1000000 in
theorem rtake_cons (k : UInt8) (r : Bs) (hl : r.length < 9223372036854775800) (w : World) :
    Calls Tryz.prog 84 #[.string ⟨List.toArray (k :: r)⟩] w fun e w' => e = .returned (.tuple #[.int .i64 ((Pl.take (k :: r)).1), .string ⟨List.toArray ((Pl.take (k :: r)).2.1)⟩, .int .i64 ((Pl.take (k :: r)).2.2)]) ∧ ∃ n, w' = w.drewN n := by
  have HC := Lib.hid (take_cons' k r)
  have hk := k.toNat_lt
  generalize hgn : k.toNat = kn at *
  by_cases h8 : 8 < kn
  · rw [show Pl.take (k :: r) = (0, [], 3) from by rw [HC.out, if_pos h8]]
    have h8' : (8 : Int) < (kn : Int) := by omega
    go_enter Tryz.func84, Tryz.ntmps84
    go_wp2_with fail
    go_ret3
    exact ⟨rfl, 0, rfl⟩
  have h8' : ¬ (8 : Int) < (kn : Int) := by omega
  by_cases hr : r.length < kn
  · rw [show Pl.take (k :: r) = (0, [], 20) from by rw [HC.out, if_neg h8, if_pos hr]]
    have hr' : (r.length : Int) + 1 < (kn : Int) + 1 := by omega
    go_enter Tryz.func84, Tryz.ntmps84
    go_wp2_with fail
    go_ret3
    exact ⟨rfl, 0, rfl⟩
  have hr' : ¬ (r.length : Int) < (kn : Int) := by omega
  by_cases h0 : kn = 0
  · rw [show Pl.take (k :: r) = (0, r, 0) from by rw [HC.out, if_neg h8, if_neg hr, if_neg (by omega), h0]; rfl]
    subst h0
    go_enter Tryz.func84, Tryz.ntmps84
    go_wp2_with fail
    go_loop [6, 7] (fun s6 s7 => s6 = .int .i64 0 ∧ s7 = .int .i64 1) (fun _ _ => 0)
    case atStart => exact ⟨rfl, rfl⟩
    case round =>
      obtain ⟨rfl, rfl⟩ := hrel
      go_wp2_with fail
      go_quiet (fail)
      go_wp2_with fail
      go_ret3
      exact ⟨rfl, _, rfl⟩
  obtain ⟨c, t, rfl⟩ : ∃ c t, r = c :: t := by
    cases r with
    | nil => simp at hr; omega
    | cons c t => exact ⟨c, t, rfl⟩
  have hcl := c.toNat_lt
  have hk0 : (0 : Int) < (kn : Int) := by omega
  have HG := Lib.hid hgn
  clear hgn
  by_cases hc0 : c = 0
  · rw [show Pl.take (k :: c :: t) = (0, [], 3) from by rw [HC.out, if_neg h8, if_neg hr, if_pos (.inl ⟨by omega, hc0⟩)]]
    have hc1 : ((c.toNat : Int) == 0) = true := by rw [hc0]; rfl
    have HK := Lib.hid hc0
    clear hc0
    have hgk := HG.out
    go_enter Tryz.func84, Tryz.ntmps84
    go_wp2_with fail
    go_ret3
    exact ⟨rfl, 0, rfl⟩
  have hc1 : ((c.toNat : Int) == 0) = false := by
    have : c.toNat ≠ 0 := fun h => hc0 (UInt8.toNat_inj.1 (by simpa using h))
    simp; omega
  by_cases h88 : kn = 8 ∧ 127 < c.toNat
  · rw [show Pl.take (k :: c :: t) = (0, [], 3) from by rw [HC.out, if_neg h8, if_neg hr, if_pos (.inr h88)]]
    have hk8 : ((kn : Int) == 8) = true := by simp; omega
    have hc2 : (127 : Int) < (c.toNat : Int) := by omega
    have hc3 : decide ((127 : Int) < (c.toNat : Int)) = true := by simpa using hc2
    have HK := Lib.hid h88
    clear h88
    have hgk := HG.out
    go_enter Tryz.func84, Tryz.ntmps84
    go_wp2_with fail
    go_ret3
    exact ⟨rfl, 0, rfl⟩
  have hbl : ((c :: t).take kn).length = kn := by rw [List.length_take]; omega
  have hbound := be_bound ((c :: t).take kn) (by omega) (fun h => by
    obtain ⟨j, rfl⟩ : ∃ j, kn = j + 1 := ⟨kn - 1, by omega⟩
    simp only [List.take_succ_cons, List.headD_cons]
    have := fun h' => h88 ⟨by omega, h'⟩
    omega)
  rw [hbl] at hbound
  have HBD := Lib.hid hbound
  clear hbound hbl
  rw [show Pl.take (k :: c :: t) = (be ((c :: t).take kn), (c :: t).drop kn, 0) from by
    rw [HC.out, if_neg h8, if_neg hr, if_neg (by
      rintro (⟨_, h⟩ | h)
      · exact hc0 h
      · exact h88 h)]]
  have HH := Lib.hid h88
  have HC0 := Lib.hid hc0
  clear h88 hc0
  have hlen : (kn : Int) ≤ (t.length : Int) + 1 := by simp at hr; omega
  generalize hct : c :: t = r at *
  have hrl : (kn : Int) ≤ (r.length : Int) := by omega
  have hr0 : 0 < r.length := by omega
  have hget : r[0]'hr0 = c := by subst hct; rfl
  have HCT := Lib.hid hct
  clear hct
  have hgk := HG.out
  by_cases hk8 : kn = 8
  · have hk8' : ((kn : Int) == 8) = true := by simp; omega
    have hc2 : ¬ (127 : Int) < (c.toNat : Int) := by intro h; exact HH.out ⟨hk8, by omega⟩
    have hc3 : decide ((127 : Int) < (c.toNat : Int)) = false := by simpa using hc2
    have HK8 := Lib.hid hk8
    clear hk8
    go_enter Tryz.func84, Tryz.ntmps84
    go_wp2_with fail
    go_loop [6, 7] (fun s6 s7 => ∃ j : Nat, j ≤ kn ∧ s7 = .int .i64 ((j : Int) + 1) ∧ s6 = .int .i64 (be ((r.take kn).take j))) (fun _ s7 => kn + 1 - (intOf s7).toNat)
    case atStart => exact ⟨0, by omega, rfl, by simp [be]⟩
    case round =>
      obtain ⟨j, hj, rfl, rfl⟩ := hrel
      by_cases hlt : j < kn
      · have hbd := HBD.out j hlt
        have hjr : j < r.length := by omega
        have hsn : be ((r.take kn).take (j + 1)) = be ((r.take kn).take j) * 256 + r[j].toNat := by
          rw [List.take_succ_eq_append_getElem (by rw [List.length_take]; omega), be_snoc, List.getElem_take]
        have HSN := Lib.hid hsn
        clear hsn
        have hbi := r[j].toNat_lt
        generalize be ((r.take kn).take j) = m at *
        go_wp2_with fail
        exact ⟨⟨j + 1, by omega, by go_num, by rw [HSN.out]; go_num⟩, by simp [intOf]; omega⟩
      · have hje : (r.take kn).take j = r.take kn := List.take_of_length_le (by rw [List.length_take]; omega)
        rw [hje]
        have hjk : j = kn := by omega
        subst hjk
        clear hje
        go_wp2_with fail
        go_quiet (fail)
        go_wp2_with fail
        go_ret3
        exact ⟨by simp; exact List.take_of_length_le (by simp), _, rfl⟩
  · have hk8' : ((kn : Int) == 8) = false := by simp; omega
    go_enter Tryz.func84, Tryz.ntmps84
    go_wp2_with fail
    go_loop [6, 7] (fun s6 s7 => ∃ j : Nat, j ≤ kn ∧ s7 = .int .i64 ((j : Int) + 1) ∧ s6 = .int .i64 (be ((r.take kn).take j))) (fun _ s7 => kn + 1 - (intOf s7).toNat)
    case atStart => exact ⟨0, by omega, rfl, by simp [be]⟩
    case round =>
      obtain ⟨j, hj, rfl, rfl⟩ := hrel
      by_cases hlt : j < kn
      · have hbd := HBD.out j hlt
        have hjr : j < r.length := by omega
        have hsn : be ((r.take kn).take (j + 1)) = be ((r.take kn).take j) * 256 + r[j].toNat := by
          rw [List.take_succ_eq_append_getElem (by rw [List.length_take]; omega), be_snoc, List.getElem_take]
        have HSN := Lib.hid hsn
        clear hsn
        have hbi := r[j].toNat_lt
        generalize be ((r.take kn).take j) = m at *
        go_wp2_with fail
        exact ⟨⟨j + 1, by omega, by go_num, by rw [HSN.out]; go_num⟩, by simp [intOf]; omega⟩
      · have hje : (r.take kn).take j = r.take kn := List.take_of_length_le (by rw [List.length_take]; omega)
        rw [hje]
        have hjk : j = kn := by omega
        subst hjk
        clear hje
        go_wp2_with fail
        go_quiet (fail)
        go_wp2_with fail
        go_ret3
        exact ⟨by simp; exact List.take_of_length_le (by simp), _, rfl⟩

end Go.Proofs.YtdddcncjmnekcaaGreatDoor

/- Walks of the document's answer for layer 2: its reader. -/
set_option linter.unusedSimpArgs false
set_option linter.unusedVariables false
namespace Go.Proofs.YtdddcncjmnekcaaGreatDoor
open Go.RowKit Pl

theorem rtake_any (s : Bs) (hl : s.length < 9223372036854775800) (w : World) :
    Calls Tryz.prog 84 #[.string ⟨List.toArray (s)⟩] w fun e w' => e = .returned (.tuple #[.int .i64 ((Pl.take s).1), .string ⟨List.toArray ((Pl.take s).2.1)⟩, .int .i64 ((Pl.take s).2.2)]) ∧ ∃ n, w' = w.drewN n := by
  cases s with
  | nil => exact rtake_nil w
  | cons k r => exact rtake_cons k r (by simp at hl; omega) w

theorem tx_len (s : Bs) (most : Int) : (tx s most).1.length ≤ s.length ∧ (tx s most).2.1.length ≤ s.length := by
  unfold tx
  by_cases he : (Pl.take s).2.2 = 0
  · obtain ⟨_, k, hk1, hk2, hk3⟩ := take_le s he
    rw [if_neg (by simpa using he)]
    split
    · simp
    · split
      · simp
      · rw [hk3]; simp; omega
  · rw [if_pos he]; simp

theorem rtext2_any (s : Bs) (most : Int) (hl : s.length < 9223372036854775800) (w : World) :
    Calls Tryz.prog 64 #[.string ⟨List.toArray (s)⟩, .int .i64 (most)] w fun e w' => e = .returned (.tuple #[.string ⟨List.toArray ((tx s most).1)⟩, .string ⟨List.toArray ((tx s most).2.1)⟩, .int .i64 ((tx s most).2.2)]) ∧ ∃ n, w' = w.drewN n := by
  by_cases he : (Pl.take s).2.2 = 0
  · obtain ⟨hn, kk, hk1, hk2, hk3⟩ := take_le s he
    have hlen : (Pl.take s).2.1.length ≤ s.length := by rw [hk3]; simp
    by_cases hm : most < (Pl.take s).1
    · rw [show tx s most = ([], [], 2) from by unfold tx; rw [if_neg (by simpa using he), if_pos hm]]
      clear hk3
      go_enter Tryz.func64, Tryz.ntmps64
      go_wp2_with fail
      refine (rtake_any s hl _).mono ?_
      rintro e w1 ⟨rfl, nq, rfl⟩
      rw [he]
      clear he
      go_wp2_with fail
      go_ret3
      exact ⟨rfl, _, rfl⟩
    · by_cases hr : (Pl.take s).2.1.length < (Pl.take s).1
      · rw [show tx s most = ([], [], 20) from by unfold tx; rw [if_neg (by simpa using he), if_neg hm, if_pos hr]]
        have hr' : ((Pl.take s).2.1.length : Int) < ((Pl.take s).1 : Int) := by omega
        clear hk3
        go_enter Tryz.func64, Tryz.ntmps64
        go_wp2_with fail
        refine (rtake_any s hl _).mono ?_
        rintro e w1 ⟨rfl, nq, rfl⟩
        rw [he]
        clear he
        go_wp2_with fail
        go_ret3
        exact ⟨rfl, _, rfl⟩
      · rw [show tx s most = ((Pl.take s).2.1.take (Pl.take s).1, (Pl.take s).2.1.drop (Pl.take s).1, 0) from by unfold tx; rw [if_neg (by simpa using he), if_neg hm, if_neg hr]]
        have hr' : ((Pl.take s).1 : Int) ≤ ((Pl.take s).2.1.length : Int) := by omega
        clear hk3
        go_enter Tryz.func64, Tryz.ntmps64
        go_wp2_with fail
        refine (rtake_any s hl _).mono ?_
        rintro e w1 ⟨rfl, nq, rfl⟩
        rw [he]
        clear he
        go_wp2_with fail
        go_quiet (fail)
        go_wp2_with fail
        go_ret3
        exact ⟨by simp; exact List.take_of_length_le (by simp), _, World.drewN_drewN _ _ _⟩
  · rw [show tx s most = ([], [], (Pl.take s).2.2) from by unfold tx; rw [if_pos he]]
    have hc2 : ((Pl.take s).2.2 != 0) = true := by simpa using he
    go_enter Tryz.func64, Tryz.ntmps64
    go_wp2_with fail
    refine (rtake_any s hl _).mono ?_
    rintro e w1 ⟨rfl, nq, rfl⟩
    go_wp2_with fail
    go_ret3
    exact ⟨rfl, _, rfl⟩

/-- The document's reader at block p. -/
def RRdr (w : World) (p : Nat) (s : Bs) (c : Int) : Prop := Blk w p #[.string ⟨List.toArray (s)⟩, .int .i64 (c)]


theorem rrText_any (s : Bs) (c most : Int) (p : Nat) (w : World) (hl : s.length < 9223372036854775800) (R : RRdr w p s c) :
    Calls Tryz.prog 44 #[.pointer (some ⟨p, 0, none⟩), .int .i64 (most)] w fun e w' => e = .returned (.string ⟨List.toArray ((mText s c most).1)⟩) ∧ RRdr w' p (mText s c most).2.1 (mText s c most).2.2 ∧ Mod [p] w w' := by
  have B : Blk w p #[.string ⟨List.toArray (s)⟩, .int .i64 (c)] := R
  obtain ⟨b1, b2, b3⟩ := id B
  by_cases hc : c = 0
  · subst hc
    by_cases he : (tx s most).2.2 = 0
    · rw [show mText s 0 most = ((tx s most).1, (tx s most).2.1, 0) from by simp [mText, he]]
      go_enter Tryz.func44, Tryz.ntmps44
      go_wp2_with fail
      refine (rtext2_any s most hl _).mono ?_
      rintro e w1 ⟨rfl, nq, rfl⟩
      rw [he]
      clear he
      go_wp2_with fail
      go_ret
      exact ⟨rfl, ((B.drewN nq).set 1 _).set 0 _, (((Mod.refl _ _).drewN nq).setCell (.inl (by simp)) _).setCell (.inl (by simp)) _⟩
    · rw [show mText s 0 most = ([], s, (tx s most).2.2) from by simp [mText, he]]
      have hc2 : ((tx s most).2.2 != 0) = true := by simpa using he
      go_enter Tryz.func44, Tryz.ntmps44
      go_wp2_with fail
      refine (rtext2_any s most hl _).mono ?_
      rintro e w1 ⟨rfl, nq, rfl⟩
      go_wp2_with fail
      go_ret
      exact ⟨rfl, (B.drewN nq).set 1 _, ((Mod.refl _ _).drewN nq).setCell (.inl (by simp)) _⟩
  · rw [show mText s c most = ([], s, c) from by simp [mText, hc]]
    have hc2 : (c != 0) = true := by simpa using hc
    go_enter Tryz.func44, Tryz.ntmps44
    go_wp2_with fail
    go_ret
    exact ⟨rfl, B, Mod.refl _ _⟩

theorem rrBytes_any (s : Bs) (c n : Int) (p : Nat) (w : World) (hl : s.length < 9223372036854775800) (hn : n ≤ 9223372036854775807) (R : RRdr w p s c) :
    Calls Tryz.prog 43 #[.pointer (some ⟨p, 0, none⟩), .int .i64 (n)] w fun e w' => e = .returned (.string ⟨List.toArray ((mBytes s c n).1)⟩) ∧ RRdr w' p (mBytes s c n).2.1 (mBytes s c n).2.2 ∧ Mod [p] w w' := by
  have B : Blk w p #[.string ⟨List.toArray (s)⟩, .int .i64 (c)] := R
  obtain ⟨b1, b2, b3⟩ := id B
  by_cases hc : c = 0
  · subst hc
    by_cases hn0 : n < 0
    · rw [show mBytes s 0 n = ([], s, 1) from by simp [mBytes, hn0]]
      go_enter Tryz.func43, Tryz.ntmps43
      go_wp2_with fail
      go_ret
      exact ⟨rfl, B.set 1 _, (Mod.refl _ _).setCell (.inl (by simp)) _⟩
    · obtain ⟨n, rfl⟩ := Int.eq_ofNat_of_zero_le (show 0 ≤ n by omega)
      by_cases hr : (s.length : Int) < n
      · rw [show mBytes s 0 n = ([], s, 20) from by unfold mBytes; rw [if_neg (by simp), if_neg (by omega), if_pos hr]]
        go_enter Tryz.func43, Tryz.ntmps43
        go_wp2_with fail
        all_goals go_ret
        all_goals exact ⟨rfl, B.set 1 _, by (repeat (first | exact Mod.refl _ _ | assumption | apply Mod.drew | apply Mod.drewN | apply Mod.alloc | (refine Mod.setCell ?_ (by simp <;> omega) _) | (refine Mod.trans ?_ (by assumption))))⟩
      · rw [show mBytes s 0 n = (s.take n, s.drop n, 0) from by unfold mBytes; rw [if_neg (by simp), if_neg (by omega), if_neg hr]; simp]
        have hr' : (n : Int) ≤ (s.length : Int) := by omega
        go_enter Tryz.func43, Tryz.ntmps43
        go_wp2_with fail
        all_goals go_ret
        all_goals exact ⟨by simp; try exact List.take_of_length_le (by simp), by rw [List.take_of_length_le (by simp)]; exact B.set 0 _, by (repeat (first | exact Mod.refl _ _ | assumption | apply Mod.drew | apply Mod.drewN | apply Mod.alloc | (refine Mod.setCell ?_ (by simp <;> omega) _) | (refine Mod.trans ?_ (by assumption))))⟩
  · rw [show mBytes s c n = ([], s, c) from by simp [mBytes, hc]]
    have hc2 : (c != 0) = true := by simpa using hc
    go_enter Tryz.func43, Tryz.ntmps43
    go_wp2_with fail
    go_ret
    exact ⟨rfl, B, Mod.refl _ _⟩


end Go.Proofs.YtdddcncjmnekcaaGreatDoor

/- The document's lists: as bytes, and out of its reader. -/
set_option linter.unusedSimpArgs false
set_option linter.unusedVariables false
namespace Go.Proofs.YtdddcncjmnekcaaGreatDoor
open Go.RowKit Pl


namespace Pl
theorem lGo_rest (each : Int) : ∀ (n : Nat) (s : Bs), (lGo each n s).2.1.length ≤ s.length
  | 0, s => Nat.le_refl _
  | n + 1, s => by
    unfold lGo
    have h := (tx_len s each).2
    split
    · simp
    · exact Nat.le_trans (lGo_rest each n _) h
theorem mList_rest (s : Bs) (c most each : Int) : (mList s c most each).2.1.length ≤ s.length := by
  unfold mList
  split
  · simp
  · split
    · simp
    · rename_i h
      split
      · simp
      · split
        · simp
        · refine Nat.le_trans (lGo_rest each _ _) ?_
          obtain ⟨_, k, _, _, hk⟩ := take_le s (by simpa using h)
          rw [hk]; simp
theorem lGo_len (each : Int) (h0 : 0 ≤ each) : ∀ (n : Nat) (s : Bs), ∀ x ∈ (lGo each n s).1, (x.length : Int) ≤ each
  | 0, s => by simp [lGo]
  | n + 1, s => by
    unfold lGo
    split
    · simp
    · rename_i hne
      intro x hx
      rcases List.mem_cons.1 hx with rfl | hx
      · have h := mText_len s 0 each h0
        have hq : (tx s each).2.2 = 0 := by
          rcases Classical.em ((tx s each).2.2 = 0) with h | h
          · exact h
          · exact absurd h hne
        rw [show (mText s 0 each).1 = (tx s each).1 from by simp [mText, hq]] at h
        exact h
      · exact lGo_len each h0 n _ x hx
end Pl

end Go.Proofs.YtdddcncjmnekcaaGreatDoor

/- A set as bytes, and its sum: the program's. -/
set_option linter.unusedSimpArgs false
set_option linter.unusedVariables false
namespace Go.Proofs.YtdddcncjmnekcaaGreatDoor
open Go.RowKit Pl

namespace Pl
/-- Members as bytes. -/
def memsB : List (Bs × Int) → Bs
  | [] => []
  | (n, p) :: r => text n ++ num p.toNat ++ memsB r
def encM (l : List (Bs × Int)) : Bs := num l.length ++ memsB l
def encMR (l : List (Bs × Int)) : Bs × Int := if chkM l then (encM l, 0) else ([], 50)
theorem memsB_app (a : List (Bs × Int)) (x : Bs × Int) : memsB (a ++ [x]) = memsB a ++ (text x.1 ++ num x.2.toNat) := by
  induction a with
  | nil => simp [memsB]
  | cons y r ih => simp [memsB, ih, List.append_assoc]
theorem memsB_len (l : List (Bs × Int)) (h : ∀ i, i < l.length → (l.getD i ([], 0)).1.length ≤ 6) : ∀ k, k ≤ l.length → (memsB (l.take k)).length ≤ 24 * k
  | 0, _ => by simp [memsB]
  | k + 1, hk => by
    have h1 := memsB_len l h k (by omega)
    have h2 := h k (by omega)
    rw [take_getD l k (by omega), memsB_app]
    have h3 := num_len (l.getD k ([], 0)).2.toNat
    have h4 := num_len (l.getD k ([], 0)).1.length
    simp only [List.length_append, text]
    omega
end Pl

theorem encM_len (l : List (Bs × Int)) (hc : chkM l = true) : (encM l).length ≤ 200 := by
  simp only [chkM, Bool.and_eq_true, decide_eq_true_eq] at hc
  have h7 := hc.1.2
  have h := memsB_len l (fun i hi => (okM_at l [] hc.2 i hi).1) l.length (by omega)
  rw [List.take_length] at h
  have hn9 := num_len l.length
  simp only [encM, List.length_append]
  omega
/-- A set's sum. -/
def dgM (l : List (Bs × Int)) : Bs := if chkM l then tagP 4 (encM l) else []


end Go.Proofs.YtdddcncjmnekcaaGreatDoor

/- The document's sets: may one be, its bytes, its sum. -/
set_option linter.unusedSimpArgs false
set_option linter.unusedVariables false
namespace Go.Proofs.YtdddcncjmnekcaaGreatDoor
open Go.RowKit Pl

theorem drewN_two (w : World) (q n : Nat) : (w.drewN q).drewN n = w.drewN (q + n) := by
  first | exact World.drewN_drewN _ _ _ | simp
theorem leS_nil (z : Bs) : leS [] z = true := by
  cases z <;> simp [leS, Op.bytesLess]
theorem leS_zero (n : Bs) (h : n ≠ []) : leS n [] = false := by
  cases n with
  | nil => exact absurd rfl h
  | cons a r => simp [leS, Op.bytesLess]

end Go.Proofs.YtdddcncjmnekcaaGreatDoor

/- Certificates: may one be (both), as bytes (both). -/
set_option linter.unusedSimpArgs false
set_option linter.unusedVariables false
namespace Go.Proofs.YtdddcncjmnekcaaGreatDoor
open Go.RowKit Pl

namespace Pl
def mayC (d : Bs) (l : List Bs) : Bool := decide (d.length = 32) && decide (l.length ≤ 7) && okS [] l
/-- The one ahead. -/
def lastS (l : List Bs) : Nat → Bs
  | 0 => []
  | i + 1 => l.getD i []
end Pl

/-- v reads as the certificate of this digest and these signers. -/
def CV (w : World) (v : Value) (d : Bs) (l : List Bs) : Prop := ∃ u, v = .agg #[.string ⟨List.toArray (d)⟩, u] ∧ SS w u l
theorem CV.keep {W w : World} {v : Value} {d : Bs} {l : List Bs} (h : CV W v d l) (hb : Below W.heap.size W w) : CV w v d l := by
  obtain ⟨u, h1, h2⟩ := h
  exact ⟨u, h1, h2.keep hb⟩



end Go.Proofs.YtdddcncjmnekcaaGreatDoor
