/- List, Held, Disk. -/
import Derived.Lib.ConvBytes
import Derived.Deep.AppendSrc
import Derived.Test.YthgjdaomcpinaaaGreatDoorMp4
set_option linter.unnecessarySimpa false
set_option linter.unusedSimpArgs false
set_option linter.unusedVariables false
set_option maxRecDepth 100000
set_option maxHeartbeats 32000000
namespace Go.Proofs.YthgjdaomcpinaaaGreatDoor
open Go.RowKit Pl
def BOwn (w : World) (base : Nat) (v : Value) (l : Bs) : Prop :=
 ∃ g cap, v = .slice (some ⟨g, 0, none⟩) l.length cap ∧ base ≤ g ∧ g < w.heap.size ∧ l.length ≤ cap ∧ cap ≤ maxLen ∧
  (∀ i, i < l.length → w.cell? ⟨g, i, none⟩ = some (.int .u8 ((l.getD i 0).toNat : Int))) ∧ ∀ i, i < cap → (w.cell? ⟨g, i, none⟩).isSome = true ∧ w.frozen? ⟨g, i, none⟩ = false
theorem BOwn.keep {W w : World} {base : Nat} {v : Value} {l : Bs} (h : BOwn W base v l) (hb : Below W.heap.size W w) : BOwn w base v l := by
 obtain ⟨g, cap, h1, h2, h3, h4, h5, h6, h7⟩ := h
 exact ⟨g, cap, h1, h2, Nat.lt_of_lt_of_le h3 hb.size, h4, h5, fun i hi => (hb.cell (p := ⟨g, i, none⟩) h3).trans (h6 i hi), fun i hi => ⟨by rw [hb.cell (p := ⟨g, i, none⟩) h3]; exact (h7 i hi).1, (hb.frozen (p := ⟨g, i, none⟩) h3).trans (h7 i hi).2⟩⟩
theorem BOwn.conv {w : World} {base : Nat} {v : Value} {l : Bs} (h : BOwn w base v l) : (convert 113 9 v).run Tryz.prog w = .ok (.string ⟨List.toArray l⟩) w := by
 obtain ⟨g, cap, rfl, h2, h3, h4, h5, h6, h7⟩ := h
 exact conv_str 113 5 9 Tryz.underlying113 Tryz.underlying5 Tryz.underlying9 g 0 l.length cap l rfl (fun i hi => by simpa using h6 i hi)
theorem bs_size (s : Bs) : (⟨s.toArray⟩ : ByteArray).size = s.length := by simp [ByteArray.size]
theorem bcells_at (s : Bs) (j : Nat) (hj : j < s.length) : (byteCells ⟨s.toArray⟩)[j]? = some (.int .u8 ((s.getD j 0).toNat : Int)) := by
 simp [byteCells, List.getD, List.getElem?_eq_getElem hj]
theorem run_conv_own (w : World) (s : Bs) (base : Nat) (hbase : base ≤ w.heap.size) (hs : s.length ≤ maxLen) :
  ∃ v w', (convert 9 113 (.string ⟨List.toArray s⟩)).run Tryz.prog w = .ok v w' ∧ BOwn w' base v s ∧ Below base w w' := by
 have hr := Lib.run_convert_string_bytes (P := Tryz.prog) w 9 113 5 ⟨s.toArray⟩ Tryz.underlying9 Tryz.underlying113 Tryz.underlying5
 have hz := bs_size s
 have hge := grownCap_ge w s.length 0 5
 have hle := grownCap_le_maxLen w s.length 0 5 hs
 have hcs : (Lib.bytesCells w 5 ⟨s.toArray⟩).size = grownCap w s.length 0 5 := by
  simp only [Lib.bytesCells, hz, Array.size_append, Array.size_map, Array.size_replicate, List.size_toArray]
  omega
 rw [hz] at hr
 refine ⟨_, _, hr, ⟨w.heap.size, _, rfl, hbase, by rw [Lib.bytesWorld_size]; omega, hge, hle, fun i hi => ?_, fun i hi => ?_⟩, ⟨rfl, rfl, rfl, by rw [Lib.bytesWorld_size]; omega, fun k hk => Lib.bytesWorld_at_old w _ _ k (by omega)⟩⟩
 ·have h := Lib.bytesWorld_cell w 5 ⟨s.toArray⟩ i (by rw [hz]; exact hi)
  exact h
 ·have hat := Lib.bytesWorld_at_new w 5 ⟨s.toArray⟩
  refine ⟨?_, ?_⟩
  ·simp only [World.cell?, hat]
   simp [hcs, hi]
  ·simp only [World.frozen?, hat, hcs]
   simp; omega
theorem run_app_own (w : World) (base : Nat) (v : Value) (l news : Bs) (ty : TypeId) (h : BOwn w base v l) (hbase : base ≤ w.heap.size) (hlen : l.length + news.length ≤ 140737488355328) :
  ∃ v' w', (Builtin.append_ #[113, 9] ty #[v, .string ⟨List.toArray news⟩]).run Tryz.prog w = .ok v' w' ∧ BOwn w' base v' (l ++ news) ∧ Below base w w' := by
 obtain ⟨i0, hi, hz0, hz1, hz2⟩ := info_parts infoU8
 obtain ⟨g, cap, rfl, h2, h3, h4, h5, h6, h7⟩ := h
 have hz := bs_size news
 have hsrc := Src.ofString (P := Tryz.prog) w (tx := 9) Tryz.underlying9 ⟨news.toArray⟩
 rw [hz, ← hz1] at hsrc
 have hnl : (byteCells ⟨news.toArray⟩).length = news.length := by rw [byteCells_length, hz]
 by_cases hroom : l.length + news.length ≤ cap
 ·have hth : ∀ j, j < (byteCells ⟨news.toArray⟩).length → (w.cell? ⟨g, l.length + j, none⟩).isSome = true := fun j hj => (h7 _ (by omega)).1
  have hr := run_append_room_src (P := Tryz.prog) w 113 9 ty 5 i0 Tryz.underlying113 hi g 0 l.length cap _ news.length _ hsrc hroom (fun j hj => by rw [hz1, Nat.mul_one, Nat.zero_add]; exact hth j hj) (fun j hj => by rw [hz1, Nat.mul_one, Nat.zero_add]; exact (h7 _ (by omega)).2)
  rw [hz1, Nat.mul_one, Nat.zero_add] at hr
  refine ⟨_, _, hr, ⟨g, cap, by rw [List.length_append], h2, ?_, by rw [List.length_append]; exact hroom, h5, fun i hi => ?_, fun i hi => ⟨?_, ?_⟩⟩, ?_⟩
  ·exact Nat.lt_of_lt_of_le h3 (Mod.setCellsL g _ _ w).size
  ·by_cases hil : i < l.length
   ·rw [World.cell?_setCells_out g _ _ w _ (fun _ _ => .inl (by show i < l.length; omega)), h6 i hil]
    simp [List.getD, List.getElem?_append_left hil]
   ·obtain ⟨j, rfl⟩ : ∃ j, i = l.length + j := ⟨i - l.length, by omega⟩
    have hj : j < news.length := by simp at hi; omega
    rw [World.cell?_setCells_in g _ _ w hth j (by omega), ← List.getElem?_eq_getElem, bcells_at news j hj]
    simp [List.getD, List.getElem?_append_right]
  ·by_cases hin : l.length ≤ i ∧ i < l.length + news.length
   ·obtain ⟨j, rfl⟩ : ∃ j, i = l.length + j := ⟨i - l.length, by omega⟩
    rw [World.cell?_setCells_in g _ _ w hth j (by omega)]
    rfl
   ·rw [World.cell?_setCells_out g _ _ w _ (fun _ _ => (show i < l.length ∨ l.length + _ ≤ i by omega))]
    exact (h7 i hi).1
  ·rw [World.frozen?_setCells]
   exact (h7 i hi).2
  ·exact Below.mod (Below.refl _ _) (Mod.setCellsL g _ _ w) hbase (by simpa using h2)
 ·have hge := grownCap_ge w (l.length + news.length) cap 5
  have hle := grownCap_le_maxLen w (l.length + news.length) cap 5 (by unfold maxLen; omega)
  have hr := run_append_grow_src (P := Tryz.prog) w 113 9 ty 5 i0 (.int .u8 0) Tryz.underlying113 hi hz0 (some ⟨g, 0, none⟩) l.length cap (bv l) (by
    rw [hz1]
    refine run_firstCells_some w.drew 1 l.length ⟨g, 0, none⟩ l.length cap (bv l) (by rw [bv_len]; omega) (fun j u hu => ?_)
    have hj : j < l.length := by
     have := (List.getElem?_eq_some_iff.1 hu).1
     rw [bv_len] at this; exact this
    rw [Addr.add_lit, Nat.zero_add]
    refine (h6 j hj).trans ?_
    rw [← hu]
    simp [bv, List.getD, List.getElem?_eq_getElem hj]) _ news.length _ hsrc (by omega) (by omega) (by
    rw [hz2]
    have := nextslicecap_le (show cap < l.length + news.length by omega)
    omega)
  refine ⟨_, _, hr, ⟨w.heap.size, _, by rw [List.length_append], hbase, by simp, by rw [List.length_append]; exact hge, hle, fun i hi => ?_, fun i hi => ⟨?_, ?_⟩⟩, ?_⟩
  ·have hx : ((bv l ++ byteCells ⟨news.toArray⟩).toArray ++ Builtin.zeroCells (Value.int .u8 0).cells (grownCap w (l.length + news.length) cap 5 - (l.length + news.length)))[i]? = some (.int .u8 (((l ++ news).getD i 0).toNat : Int)) := by
    rw [List.length_append] at hi
    rw [Array.getElem?_append_left (by simp [bv_len, hnl]; omega)]
    simp only [List.getElem?_toArray]
    by_cases hil : i < l.length
    ·rw [List.getElem?_append_left (by rw [bv_len]; exact hil)]
     simp [bv, List.getD, List.getElem?_eq_getElem hil, List.getElem?_append_left hil]
    ·obtain ⟨j, rfl⟩ : ∃ j, i = l.length + j := ⟨i - l.length, by omega⟩
     rw [List.getElem?_append_right (by rw [bv_len]; omega), bv_len, Nat.add_sub_cancel_left, bcells_at news j (by omega)]
     simp [List.getD, List.getElem?_append_right]
   exact (Blk.new w.drew _ 5).cell i |>.trans hx
  ·have hx : i < ((bv l ++ byteCells ⟨news.toArray⟩).toArray ++ Builtin.zeroCells (Value.int .u8 0).cells (grownCap w (l.length + news.length) cap 5 - (l.length + news.length))).size := by
    simp [bv_len, hnl, size_zeroCells, Value.cells]
    omega
   show ((w.drew.alloc _).cell? ⟨w.drew.heap.size, i, none⟩).isSome = true
   rw [(Blk.new w.drew _ 5).cell i, Array.getElem?_eq_getElem hx]
   rfl
  ·exact (Blk.new w.drew _ 5).froz i
  ·exact (Below.refl _ _).drew.alloc hbase _
section
variable {ops : Array Oper} {o : Oper} {rest : List Oper} {a : Act} {w : World} {Q : Exit → Act → World → Prop}
theorem wpList_convO (hgd : o.guard = none) (x : Operand) (ho : o.op = .convert 9 113 x) (s : Bs) (hx : a.eval x = .string ⟨List.toArray s⟩) (base : Nat) (hbase : base ≤ w.heap.size) (hs : s.length ≤ maxLen)
  (h : ∀ v' w', BOwn w' base v' s → Below base w w' → wpList Tryz.prog ops Q rest (a.put o.dst v') w') : wpList Tryz.prog ops Q (o :: rest) a w := by
 refine wpList_plain hgd fun K hK => ?_
 obtain ⟨v, w', hr, h2, h3⟩ := run_conv_own w s base hbase hs
 unfold Oper.wp execOp
 simp only [ho, hx, Sem.run_bind, Sem.run_pure, Result.andThen_ok, hr]
 exact hK _ _ (h v w' h2 h3)
theorem wpList_appO (hgd : o.guard = none) (s x : Operand)
  (ho : o.op = .call { callee := .builtin .append, args := #[s, x], argTypes := #[113, 9] })
  (base : Nat) (v : Value) (l : Bs) (hs : a.eval s = v) (hown : BOwn w base v l) (news : Bs) (hx : a.eval x = .string ⟨List.toArray news⟩)
  (hlen : l.length + news.length ≤ 140737488355328) (hbase : base ≤ w.heap.size)
  (h : ∀ v' w', BOwn w' base v' (l ++ news) → Below base w w' → wpList Tryz.prog ops Q rest (a.put o.dst v') w') : wpList Tryz.prog ops Q (o :: rest) a w := by
 refine wpList_plain hgd fun K hK => ?_
 obtain ⟨v', w', hr, h2, h3⟩ := run_app_own w base v l news o.type hown hbase hlen
 unfold Oper.wp execOp
 simp only [ho, resolve, invoke, builtin, Sem.run_bind, Sem.run_pure, Result.andThen_ok, List.map_toArray, List.map_cons, List.map_nil, hs, hx, hr]
 exact hK _ _ (h v' w' h2 h3)
end
theorem clist_any (v : Value) (l : List Bs) (w : World) (hn : l.length ≤ 1000) (hl : ∀ i, i < l.length → (l.getD i []).length ≤ 1000000) (hv : SS w v l) :
  Calls Tryz.prog 176 #[v] w fun e w' => e = .returned (.string ⟨List.toArray (encS l)⟩) ∧ Below w.heap.size w w' := by
 generalize hr : encS l = r
 have HR := Lib.hid hr
 clear hr
 obtain ⟨a, c, rfl⟩ := hv.form
 have HV := Lib.hid hv
 have HL := Lib.hid hl
 have HB := Lib.hid (listB_len l 1000000 hl)
 clear hv hl
 go_enter Tryz.func176, Tryz.ntmps176
 go_wp2_with fail
 refine (cnum_any l.length (by omega) _).mono ?_
 rintro e w1 ⟨rfl, hb⟩
 have hn9 := num_len l.length
 have hws := hb.size
 go_wp2_with (first
  | (refine wpList_convO rfl (.tmp 8) rfl _ rfl w.heap.size hws (by unfold maxLen; omega) ?_; rintro v2 w2 hO hb2)
  | fail)
 have hb3 := hb.trans hb2
 clear hb hb2 hws
 go_wp2_with fail
 go_loopw [3, 12] (fun s3 s12 wr => ∃ i : Nat, i ≤ l.length ∧ s12 = .int .i64 i ∧ BOwn wr w.heap.size s3 (num l.length ++ listB (l.take i)) ∧ Below w.heap.size w wr) (fun _ s12 _ => l.length - (intOf s12).toNat)
 case atStart => exact ⟨0, by omega, rfl, by simpa [listB] using hO, hb3⟩
 case round =>
  obtain ⟨i, hi, rfl, hO, hb⟩ := hrel
  obtain ⟨wq, h⟩ := Below.nm hb
  subst h
  by_cases hlt : i < l.length
  ·obtain ⟨g, off, rfl, c1⟩ := (HV.out.keep hb).at i hlt
   have o1 := HL.out i hlt
   have hB := HB.out i (by omega)
   have hnx : num l.length ++ listB (l.take (i + 1)) = num l.length ++ listB (l.take i) ++ num (l.getD i []).length ++ l.getD i [] := by
    rw [takeS l i hlt, listB_app, text]
    simp only [List.append_assoc]
   have hs9 : (num l.length ++ listB (l.take i)).length ≤ 1100000000 := by rw [List.length_append]; have : i ≤ 1000 := (by omega); omega
   generalize hx : l.getD i [] = x at *
   generalize num l.length ++ listB (l.take i) = s at *
   have hx9 := num_len x.length
   clear hx hB HB
   go_wp2_with fail
   refine (cnum_any x.length (by omega) _).mono ?_
   rintro e w4 ⟨rfl, hb4⟩
   have hO4 := hO.keep hb4
   have hb5 := hb.trans (hb4.mono hb.size)
   have hz5 := hb5.size
   go_wp2_with (first
    | (at_builtin; refine wpList_appO rfl (.tmp 16) (.tmp 19) rfl w.heap.size _ s rfl hO4 _ rfl (by omega) hz5 ?_; rintro v6 w6 hO6 hb6; have hz6 := hb6.size)
    | (at_builtin; refine wpList_appO rfl (.tmp 21) (.tmp 22) rfl w.heap.size _ _ rfl hO6 _ rfl (by rw [List.length_append]; omega) (by omega) ?_; rintro v7 w7 hO7 hb7)
    | fail)
   exact ⟨⟨i + 1, by omega, by go_num, by rw [hnx]; exact hO7, (hb5.trans hb6).trans hb7⟩, by simp [intOf]; omega⟩
  ·obtain rfl : i = l.length := by omega
   have hc := hO.conv
   rw [List.take_length] at hc
   go_wp2_with fail
   all_goals (go_ret; refine ⟨?_, hb⟩; rw [← HR.out]; rfl)
end Go.Proofs.YthgjdaomcpinaaaGreatDoor
namespace Go.Proofs.YthgjdaomcpinaaaGreatDoor
open Go.RowKit
theorem hold_and {a b : Prop} (h : a) (k : a → b) : a ∧ b := ⟨h, k h⟩
theorem wp_loads {P : Program} {o : Oper} {a : Act} {w : World} {K : Act → World → Prop} {Q : Exit → Act → World → Prop} (u : Value) (hv : (execOp a.eval o).run P w = .ok (.value u) w) (h : K (a.put o.dst u) w) : o.wp P a w K Q := by
 unfold Oper.wp
 rw [hv]
 exact h
theorem wpH_startB {P : Program} {id : Nat} {ops : Array Oper} {Q : Exit → Act → World → Prop} {a : Act} {w : World} (B : Nat) (hm : P.follows .mixedOrders = true)
  (h : Below B w w.drew → wpAnyH P .any ops Q (Below B w) ops.size (Array.replicate ops.size false) a w.drew) : (Code.region id ops true).wp P Q a w :=
 wp_region_held_drew hm (Below.refl _ _).drew h
theorem wpO_op {P : Program} {ops : Array Oper} {Q : Exit → Act → World → Prop} {a : Act} {w : World} {K : Act → World → Prop} {i : Nat} {oi : Oper} (hi : ops[i]? = some oi) (hw : Region.wanted oi (yielded ops a.tmps) = true) (h : oi.wp P a w K Q) : wpOp P ops Q i K a w := by
 unfold wpOp
 simp only [hi, hw, if_true]
 exact .inl h
theorem wpO_call {P : Program} {ops : Array Oper} {Q : Exit → Act → World → Prop} {S : World → Prop} {a : Act} {w : World} {K : Act → World → Prop} {i : Nat} {oi : Oper} (hi : ops[i]? = some oi) (hw : Region.wanted oi (yielded ops a.tmps) = true) {f : FuncId} {args : Array Value} {R : Ending → World → Prop} (hc : Calls P f args w R)
  (hv : (execOp a.eval oi).run P w = .ok (.enter f args) w) (h : ∀ e w', R e w' → ∃ v, e = .returned v ∧ S w' ∧ K (a.put oi.dst v) w') : wpOp P ops Q i (fun a' w' => S w' ∧ K a' w') a w := by
 unfold wpOp
 simp only [hi, hw, if_true]
 refine .inl ?_
 unfold Oper.wp
 rw [hv, Oper.upon_enter]
 refine hc.mono fun e w' hR => ?_
 obtain ⟨v, rfl, h1, h2⟩ := h e w' hR
 exact ⟨h1, h2⟩
theorem wp_allocK {P : Program} {o : Oper} {a : Act} {w : World} {K : Act → World → Prop} {Q : Exit → Act → World → Prop} (t : TypeId) (ho : o.op = .alloc t) (z : Array Value) (hz : ∀ w : World, (execOp a.eval o).run P w = .ok (.value (.pointer (some ⟨w.heap.size, 0, none⟩))) (w.alloc (.cells z t)))
  (h : ∀ k w', w.heap.size ≤ k → Blk w' k z → Below w.heap.size w w' → K (a.put o.dst (.pointer (some ⟨k, 0, none⟩))) w') : o.wp P a w K Q := by
 unfold Oper.wp
 rw [hz w]
 exact h _ _ (Nat.le_refl _) (Blk.new _ _ _) (Below.allocS (Below.refl _ _) _)
theorem wp_newK {P : Program} {o : Oper} {a : Act} {w : World} {K : Act → World → Prop} {Q : Exit → Act → World → Prop} (t : TypeId) (z : Array Value) (u : Nat → Value) (hz : ∀ w : World, (execOp a.eval o).run P w = .ok (.value (u w.heap.size)) (w.alloc (.cells z t)))
  (h : ∀ k w', w.heap.size ≤ k → w'.heap[k]? = some (.cells z t) → k < w'.heap.size → Below w.heap.size w w' → K (a.put o.dst (u k)) w') : o.wp P a w K Q := by
 unfold Oper.wp
 rw [hz w]
 exact h _ _ (Nat.le_refl _) (heap_alloc_new w _) (by simp) (Below.allocS (Below.refl _ _) _)
theorem Blk.of_heap {w : World} {k : Nat} {z : Array Value} {t : TypeId} (hh : w.heap[k]? = some (.cells z t)) (hk : k < w.heap.size) : Blk w k z :=
 ⟨fun o => by simp [World.cell?, hh], fun o => by simp [World.frozen?, hh], hk⟩
end Go.Proofs.YthgjdaomcpinaaaGreatDoor
namespace Go.Proofs.YthgjdaomcpinaaaGreatDoor
open Go.RowKit Pl
namespace Pl
structure Dk where
 s : Bs
 safe : Int
 room : Int
 fuse : Int
 down : Bool
def burntD (d : Dk) : Dk × Int := if d.fuse = 0 then (⟨d.s, d.safe, d.room, d.fuse, true⟩, 311) else if 0 < d.fuse then (⟨d.s, d.safe, d.room, d.fuse - 1, d.down⟩, 0) else (d, 0)
theorem burnt_zero {d : Dk} (h : d.fuse = 0) : burntD d = (⟨d.s, d.safe, d.room, d.fuse, true⟩, 311) := if_pos h
theorem burnt_pos {d : Dk} (h : 0 < d.fuse) : burntD d = (⟨d.s, d.safe, d.room, d.fuse - 1, d.down⟩, 0) := by unfold burntD; rw [if_neg (by omega), if_pos h]
theorem burnt_neg {d : Dk} (h : d.fuse < 0) : burntD d = (d, 0) := by unfold burntD; rw [if_neg (by omega), if_neg (by omega)]
def syncD (d : Dk) : Dk × Int := if d.down then (d, 311) else if (burntD d).2 = 0 then (⟨d.s, d.s.length, d.room, (burntD d).1.fuse, d.down⟩, 0) else burntD d
end Pl
def BOwv (w : World) (av : List Nat) (v : Value) (l : Bs) : Prop :=
 ∃ g cap, v = .slice (some ⟨g, 0, none⟩) l.length cap ∧ g ∉ av ∧ g < w.heap.size ∧ l.length ≤ cap ∧ cap ≤ maxLen ∧
  (∀ i, i < l.length → w.cell? ⟨g, i, none⟩ = some (.int .u8 ((l.getD i 0).toNat : Int))) ∧ ∀ i, i < cap → (w.cell? ⟨g, i, none⟩).isSome = true ∧ w.frozen? ⟨g, i, none⟩ = false
theorem BOwv.own {w : World} {av : List Nat} {v : Value} {l : Bs} (h : BOwv w av v l) : BOwn w 0 v l := by
 obtain ⟨g, cap, h1, h2, h3, h4, h5, h6, h7⟩ := h
 exact ⟨g, cap, h1, Nat.zero_le _, h3, h4, h5, h6, h7⟩
theorem BOwv.keep {W w : World} {av : List Nat} {v : Value} {l : Bs} (h : BOwv W av v l) (hb : Below W.heap.size W w) : BOwv w av v l := by
 obtain ⟨g, cap, h1, h2, h3, h4, h5, h6, h7⟩ := h
 exact ⟨g, cap, h1, h2, Nat.lt_of_lt_of_le h3 hb.size, h4, h5, fun i hi => (hb.cell (p := ⟨g, i, none⟩) h3).trans (h6 i hi), fun i hi => ⟨by rw [hb.cell (p := ⟨g, i, none⟩) h3]; exact (h7 i hi).1, (hb.frozen (p := ⟨g, i, none⟩) h3).trans (h7 i hi).2⟩⟩
def DB (w : World) (av : List Nat) (v : Value) (t : Bs) : Prop := (v = .slice none 0 0 ∧ t = []) ∨ BOwv w av v t
theorem DB.keep {W w : World} {av : List Nat} {v : Value} {t : Bs} (h : DB W av v t) (hb : Below W.heap.size W w) : DB w av v t := h.imp id (fun h => h.keep hb)
theorem BOwv.modl {w w' : World} {av m : List Nat} {v : Value} {l : Bs} (h : BOwv w av v l) (hm : Mod m w w') (hp : ∀ x ∈ m, x ∈ av) : BOwv w' av v l := by
 obtain ⟨g, cap, h1, h2, h3, h4, h5, h6, h7⟩ := h
 have hb : w'.heap[g]? = w.heap[g]? := hm.block g h3 (fun hi => h2 (hp g hi))
 have hc : ∀ o, w'.cell? ⟨g, o, none⟩ = w.cell? ⟨g, o, none⟩ := fun o => World.cell?_of_block (a := ⟨g, o, none⟩) hb
 have hf : ∀ o, w'.frozen? ⟨g, o, none⟩ = w.frozen? ⟨g, o, none⟩ := fun o => by unfold World.frozen?; rw [hb]
 exact ⟨g, cap, h1, h2, Nat.lt_of_lt_of_le h3 hm.size, h4, h5, fun i hi => by rw [hc]; exact h6 i hi, fun i hi => by rw [hc, hf]; exact h7 i hi⟩
theorem DB.modl {w w' : World} {av m : List Nat} {v : Value} {t : Bs} (h : DB w av v t) (hm : Mod m w w') (hp : ∀ x ∈ m, x ∈ av) : DB w' av v t := h.imp id (fun h => h.modl hm hp)
theorem DB.mod {w w' : World} {av : List Nat} {p : Nat} {v : Value} {t : Bs} (h : DB w av v t) (hm : Mod [p] w w') (hp : p ∈ av) : DB w' av v t := h.modl hm (fun x hx => by rw [List.mem_singleton] at hx; rw [hx]; exact hp)
theorem DB.more {w : World} {av : List Nat} {x : Nat} {v : Value} {t : Bs} (h : DB w av v t) (hx : w.heap.size ≤ x) : DB w (x :: av) v t := by
 refine h.imp id (fun h => ?_)
 obtain ⟨g, cap, h1, h2, h3, h4⟩ := h
 exact ⟨g, cap, h1, fun hi => (List.mem_cons.1 hi).elim (fun e => by omega) h2, h3, h4⟩
theorem DB.form {w : World} {av : List Nat} {v : Value} {t : Bs} (h : DB w av v t) : ∃ a c, v = .slice a t.length c := by
 rcases h with ⟨rfl, rfl⟩ | ⟨g, cap, h1, _⟩
 ·exact ⟨none, 0, rfl⟩
 ·exact ⟨_, cap, h1⟩
theorem DB.conv {w : World} {av : List Nat} {v : Value} {t : Bs} (h : DB w av v t) : (convert 113 9 v).run Tryz.prog w = .ok (.string ⟨List.toArray t⟩) w := by
 rcases h with ⟨rfl, rfl⟩ | h
 ·exact run_convert_bytes_nil w 113 5 Tryz.underlying113 Tryz.underlying5 0 0 9 Tryz.underlying9
 ·exact h.own.conv
structure DkV (w : World) (av : List Nat) (p : Nat) (d : Dk) : Prop where
 lt : p ∈ av
 row : ∃ v, DB w av v d.s ∧ Blk w p #[v, .int .i64 d.safe, .int .i64 d.room, .int .i64 d.fuse, .bool d.down]
theorem DkV.more {w : World} {av : List Nat} {p x : Nat} {d : Dk} (h : DkV w av p d) (hx : w.heap.size ≤ x) : DkV w (x :: av) p d := by
 obtain ⟨v, h1, h2⟩ := h.row
 exact ⟨List.mem_cons_of_mem _ h.lt, v, h1.more hx, h2⟩
theorem DkV.modl {w w' : World} {av m : List Nat} {p : Nat} {d : Dk} (h : DkV w av p d) (hm : Mod m w w') (hp : ∀ x ∈ m, x ∈ av) (hn : p ∉ m) : DkV w' av p d := by
 obtain ⟨v, h1, h2⟩ := h.row
 exact ⟨h.lt, v, h1.modl hm hp, h2.mod hm hn⟩
theorem DkV.keep {W w : World} {av : List Nat} {p : Nat} {d : Dk} (h : DkV W av p d) (hb : Below W.heap.size W w) : DkV w av p d := by
 obtain ⟨v, h1, h2⟩ := h.row
 exact ⟨h.lt, v, h1.keep hb, h2.keep hb⟩
theorem dchange_any (av : List Nat) (p : Nat) (d : Dk) (hf : -9223372036854775808 ≤ d.fuse ∧ d.fuse ≤ 9223372036854775807) (w : World) (h : DkV w av p d) :
  Calls Tryz.prog 154 #[.pointer (some ⟨p, 0, none⟩)] w fun e w' => e = .returned (.int .i64 ((burntD d).2)) ∧ DkV w' av p (burntD d).1 ∧ Mod [p] w w' := by
 obtain ⟨v, hv, B⟩ := h.row
 have HL := Lib.hid h.lt
 have HV := Lib.hid hv
 clear h hv
 obtain ⟨s, safe, room, fuse, down⟩ := d
 simp only at hf B HV
 obtain ⟨b1, b2, b3⟩ := id B
 by_cases h0 : fuse = 0
 ·subst h0
  rw [burnt_zero rfl]
  go_enter Tryz.func154, Tryz.ntmps154
  go_wp2_with fail
  go_ret
  have hm := (Mod.refl [p] w).setCell (p := ⟨p, 4, none⟩) (.inl (by simp)) (.bool true)
  exact ⟨rfl, ⟨HL.out, v, HV.out.mod hm HL.out, by simpa using B.set 4 (.bool true)⟩, hm⟩
 ·have e0 : (fuse == 0) = false := by simpa using h0
  by_cases h1 : 0 < fuse
  ·have d1 : decide (0 < fuse) = true := by simpa using h1
   have w1 : IntKind.i64.wrap (fuse - 1) = fuse - 1 := by rw [IntKind.wrap_i64]; omega
   rw [burnt_pos h1]
   clear h0
   go_enter Tryz.func154, Tryz.ntmps154
   go_wp2_with fail
   go_ret
   have hm := (Mod.refl [p] w).setCell (p := ⟨p, 3, none⟩) (.inl (by simp)) (.int .i64 (fuse - 1))
   exact ⟨rfl, ⟨HL.out, v, HV.out.mod hm HL.out, by simpa using B.set 3 (.int .i64 (fuse - 1))⟩, hm⟩
  ·have d1 : decide (0 < fuse) = false := by simpa using h1
   rw [burnt_neg (by simp only; omega)]
   clear h0 h1
   go_enter Tryz.func154, Tryz.ntmps154
   go_wp2_with fail
   go_ret
   exact ⟨rfl, ⟨HL.out, v, HV.out, B⟩, Mod.refl _ _⟩
theorem dread_any (av : List Nat) (p : Nat) (d : Dk) (w : World) (h : DkV w av p d) :
  Calls Tryz.prog 43 #[.pointer (some ⟨p, 0, none⟩)] w fun e w' => e = .returned (.string ⟨List.toArray d.s⟩) ∧ w' = w := by
 obtain ⟨v, hv, B⟩ := h.row
 obtain ⟨va, vc, rfl⟩ := hv.form
 have hc := hv.conv
 obtain ⟨b1, b2, b3⟩ := id B
 clear h hv B
 go_enter Tryz.func43, Tryz.ntmps43
 go_wp2_with fail
 go_ret
 exact ⟨rfl, rfl⟩
theorem dsync_any (av : List Nat) (p : Nat) (d : Dk) (hf : -9223372036854775808 ≤ d.fuse ∧ d.fuse ≤ 9223372036854775807) (w : World) (h : DkV w av p d) :
  Calls Tryz.prog 124 #[.pointer (some ⟨p, 0, none⟩)] w fun e w' => e = .returned (.int .i64 ((syncD d).2)) ∧ DkV w' av p (syncD d).1 ∧ Mod [p] w w' := by
 have hch := dchange_any av p d hf w h
 have H := Lib.hid h
 obtain ⟨v, hv, B⟩ := h.row
 obtain ⟨b1, b2, b3⟩ := id B
 cases hd : d.down
 ·rw [hd] at b1
  have hs : syncD d = if (burntD d).2 = 0 then (⟨d.s, d.s.length, d.room, (burntD d).1.fuse, d.down⟩, 0) else burntD d := by unfold syncD; rw [hd]; rfl
  have hbs : (burntD d).2 = 0 → (burntD d).1.s = d.s ∧ (burntD d).1.room = d.room ∧ (burntD d).1.down = d.down := by
   intro h0
   unfold burntD at h0 ⊢
   split
   ·rename_i h1; rw [if_pos h1] at h0; exact absurd h0 (by simp)
   ·split <;> exact ⟨rfl, rfl, rfl⟩
  have HS := Lib.hid hs
  have HB := Lib.hid hbs
  have HD := Lib.hid hd
  clear hs hbs hd h hv B H
  generalize burntD d = x at *
  obtain ⟨d1, c⟩ := x
  simp only at hch
  go_enter Tryz.func124, Tryz.ntmps124
  go_wp2_with fail
  refine hch.mono ?_
  rintro e w1 ⟨rfl, h1, m1⟩
  clear b1 b2 b3 hch
  obtain ⟨v1, hv1, B1⟩ := h1.row
  have HL := Lib.hid h1.lt
  obtain ⟨va, vc, rfl⟩ := hv1.form
  have HV1 := Lib.hid hv1
  have H1 := Lib.hid h1
  clear h1 hv1
  by_cases h0 : c = 0
  ·subst h0
   obtain ⟨e1, e2, e3⟩ := HB.out rfl
   obtain ⟨b1, b2, b3⟩ := id B1
   have HR : Hid (syncD d = (⟨d.s, d.s.length, d.room, d1.fuse, d.down⟩, 0)) := Lib.hid (by rw [HS.out]; rfl)
   have HE := Lib.hid (And.intro e1 (And.intro e2 e3))
   clear e1 e2 e3 HS HB
   go_wp2_with fail
   go_ret
   have hm := (Mod.refl [p] w1).setCell (p := ⟨p, 1, none⟩) (.inl (by simp)) (.int .i64 ((d1.s.length : Int)))
   rw [HR.out]
   obtain ⟨e1, e2, e3⟩ := HE.out
   refine ⟨rfl, ⟨HL.out, .slice va d1.s.length vc, ?_, ?_⟩, m1.trans hm⟩
   ·have := HV1.out.mod hm HL.out
    rw [e1] at this ⊢
    exact this
   ·have := B1.set 1 (.int .i64 ((d1.s.length : Int)))
    rw [← e1, ← e2, ← e3]
    simpa using this
  ·have g1 : (c == 0) = false := by simpa using h0
   have g2 : (c != 0) = true := by simpa using h0
   have HR : Hid (syncD d = (d1, c)) := Lib.hid (by rw [HS.out, if_neg h0])
   clear h0 HS HB
   go_wp2_with fail
   go_ret
   rw [HR.out]
   exact ⟨rfl, H1.out, m1⟩
 ·rw [hd] at b1
  have HS : Hid (syncD d = (d, 311)) := Lib.hid (by unfold syncD; rw [hd]; rfl)
  clear hd h hv B hch
  go_enter Tryz.func124, Tryz.ntmps124
  go_wp2_with fail
  go_ret
  rw [HS.out]
  exact ⟨rfl, H.out, Mod.refl _ _⟩
theorem dnew_any (room : Int) (h0 : 0 ≤ room) (h1 : room ≤ 1048576) (w : World) :
  Calls Tryz.prog 17 #[.int .i64 room] w fun e w' => e = .returned (.tuple #[.pointer (some ⟨w.heap.size, 0, none⟩), .int .i64 0]) ∧ DkV w' [w.heap.size] w.heap.size ⟨[], 0, room, -1, false⟩ ∧ Below w.heap.size w w' := by
 have d1 : decide (room < 0) = false := by rw [decide_eq_false_iff_not]; omega
 have d2 : decide (1048576 < room) = false := by rw [decide_eq_false_iff_not]; omega
 clear h0 h1
 go_enter Tryz.func17, Tryz.ntmps17
 go_wp2_with fail
 go_ret2
 exact ⟨rfl, ⟨by simp, .slice none 0 0, .inl ⟨rfl, rfl⟩, Blk.new _ _ _⟩, Below.allocS (Below.refl _ _) _⟩
end Go.Proofs.YthgjdaomcpinaaaGreatDoor
