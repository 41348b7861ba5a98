/- List, RefL, LedS, LedN, LedM. -/
import Derived.Lib.ConvBytes
import Derived.Deep.AppendSrc
import Derived.Deep.CutBlock
import Derived.Test.YthkpmlfaddlieaaGreatDoorMs12
set_option linter.unnecessarySimpa false
set_option linter.unusedSimpArgs false
set_option linter.unusedVariables false
set_option maxRecDepth 100000
set_option maxHeartbeats 32000000
namespace Go.Proofs.YthkpmlfaddlieaaGreatDoor
open Go.RowKit Pl
def BOwn (w : World) (base : Nat) (v : Value) (l : Bs) : Prop :=
 ∃ g cap, v = .slice (some ⟨g, 0, none⟩) l.length cap ∧ base ≤ g ∧ g < w.heap.size ∧ l.length ≤ cap ∧ cap ≤ maxLen ∧
  (∀ i, i < l.length → w.cell? ⟨g, i, none⟩ = some (.int .u8 ((l.getD i 0).toNat : Int))) ∧ ∀ i, i < cap → (w.cell? ⟨g, i, none⟩).isSome = true ∧ w.frozen? ⟨g, i, none⟩ = false
theorem BOwn.keep {W w : World} {base : Nat} {v : Value} {l : Bs} (h : BOwn W base v l) (hb : Below W.heap.size W w) : BOwn w base v l := by
 obtain ⟨g, cap, h1, h2, h3, h4, h5, h6, h7⟩ := h
 exact ⟨g, cap, h1, h2, Nat.lt_of_lt_of_le h3 hb.size, h4, h5, fun i hi => (hb.cell (p := ⟨g, i, none⟩) h3).trans (h6 i hi), fun i hi => ⟨by rw [hb.cell (p := ⟨g, i, none⟩) h3]; exact (h7 i hi).1, (hb.frozen (p := ⟨g, i, none⟩) h3).trans (h7 i hi).2⟩⟩
theorem BOwn.conv {w : World} {base : Nat} {v : Value} {l : Bs} (h : BOwn w base v l) : (convert 130 9 v).run Tryz.prog w = .ok (.string ⟨l.toArray⟩) w := by
 obtain ⟨g, cap, rfl, h2, h3, h4, h5, h6, h7⟩ := h
 exact conv_str 130 5 9 Tryz.underlying130 Tryz.underlying5 Tryz.underlying9 g 0 l.length cap l rfl (fun i hi => by simpa using h6 i hi)
theorem bs_size (s : Bs) : (⟨s.toArray⟩ : ByteArray).size = s.length := by simp [ByteArray.size]
theorem bcells_at (s : Bs) (j : Nat) (hj : j < s.length) : (byteCells ⟨s.toArray⟩)[j]? = some (.int .u8 ((s.getD j 0).toNat : Int)) := by
 simp [byteCells, List.getD, List.getElem?_eq_getElem hj]
theorem run_conv_own (w : World) (s : Bs) (base : Nat) (hbase : base ≤ w.heap.size) (hs : s.length ≤ maxLen) :
  ∃ v w', (convert 9 130 (.string ⟨s.toArray⟩)).run Tryz.prog w = .ok v w' ∧ BOwn w' base v s ∧ Below base w w' := by
 have hr := Lib.run_convert_string_bytes (P := Tryz.prog) w 9 130 5 ⟨s.toArray⟩ Tryz.underlying9 Tryz.underlying130 Tryz.underlying5
 have hz := bs_size s
 have hge := grownCap_ge w s.length 0 5
 have hle := grownCap_le_maxLen w s.length 0 5 hs
 have hcs : (Lib.bytesCells w 5 ⟨s.toArray⟩).size = grownCap w s.length 0 5 := by
  simp only [Lib.bytesCells, hz, Array.size_append, Array.size_map, Array.size_replicate, List.size_toArray]
  omega
 rw [hz] at hr
 refine ⟨_, _, hr, ⟨w.heap.size, _, rfl, hbase, by rw [Lib.bytesWorld_size]; omega, hge, hle, fun i hi => ?_, fun i hi => ?_⟩, ⟨rfl, rfl, rfl, by rw [Lib.bytesWorld_size]; omega, fun k hk => Lib.bytesWorld_at_old w _ _ k (by omega)⟩⟩
 ·have h := Lib.bytesWorld_cell w 5 ⟨s.toArray⟩ i (by rw [hz]; exact hi)
  exact h
 ·have hat := Lib.bytesWorld_at_new w 5 ⟨s.toArray⟩
  refine ⟨?_, ?_⟩
  ·simp only [World.cell?, hat]
   simp [hcs, hi]
  ·simp only [World.frozen?, hat, hcs]
   simp; omega
theorem run_app_own (w : World) (base : Nat) (v : Value) (l news : Bs) (ty : TypeId) (h : BOwn w base v l) (hbase : base ≤ w.heap.size) (hlen : l.length + news.length ≤ 140737488355328) :
  ∃ v' w', (Builtin.append_ #[130, 9] ty #[v, .string ⟨news.toArray⟩]).run Tryz.prog w = .ok v' w' ∧ BOwn w' base v' (l ++ news) ∧ Below base w w' := by
 obtain ⟨i0, hi, hz0, hz1, hz2⟩ := info_parts infoU8
 obtain ⟨g, cap, rfl, h2, h3, h4, h5, h6, h7⟩ := h
 have hz := bs_size news
 have hsrc := Src.ofString (P := Tryz.prog) w (tx := 9) Tryz.underlying9 ⟨news.toArray⟩
 rw [hz, ← hz1] at hsrc
 have hnl : (byteCells ⟨news.toArray⟩).length = news.length := by rw [byteCells_length, hz]
 by_cases hroom : l.length + news.length ≤ cap
 ·have hth : ∀ j, j < (byteCells ⟨news.toArray⟩).length → (w.cell? ⟨g, l.length + j, none⟩).isSome = true := fun j hj => (h7 _ (by omega)).1
  have hr := run_append_room_src (P := Tryz.prog) w 130 9 ty 5 i0 Tryz.underlying130 hi g 0 l.length cap _ news.length _ hsrc hroom (fun j hj => by rw [hz1, Nat.mul_one, Nat.zero_add]; exact hth j hj) (fun j hj => by rw [hz1, Nat.mul_one, Nat.zero_add]; exact (h7 _ (by omega)).2)
  rw [hz1, Nat.mul_one, Nat.zero_add] at hr
  refine ⟨_, _, hr, ⟨g, cap, by rw [List.length_append], h2, ?_, by rw [List.length_append]; exact hroom, h5, fun i hi => ?_, fun i hi => ⟨?_, ?_⟩⟩, ?_⟩
  ·exact Nat.lt_of_lt_of_le h3 (Mod.setCellsL g _ _ w).size
  ·by_cases hil : i < l.length
   ·rw [World.cell?_setCells_out g _ _ w _ (fun _ _ => .inl (by show i < l.length; omega)), h6 i hil]
    simp [List.getD, List.getElem?_append_left hil]
   ·obtain ⟨j, rfl⟩ : ∃ j, i = l.length + j := ⟨i - l.length, by omega⟩
    have hj : j < news.length := by simp at hi; omega
    rw [World.cell?_setCells_in g _ _ w hth j (by omega), ← List.getElem?_eq_getElem, bcells_at news j hj]
    simp [List.getD, List.getElem?_append_right]
  ·by_cases hin : l.length ≤ i ∧ i < l.length + news.length
   ·obtain ⟨j, rfl⟩ : ∃ j, i = l.length + j := ⟨i - l.length, by omega⟩
    rw [World.cell?_setCells_in g _ _ w hth j (by omega)]
    rfl
   ·rw [World.cell?_setCells_out g _ _ w _ (fun _ _ => (show i < l.length ∨ l.length + _ ≤ i by omega))]
    exact (h7 i hi).1
  ·rw [World.frozen?_setCells]
   exact (h7 i hi).2
  ·exact Below.mod (Below.refl _ _) (Mod.setCellsL g _ _ w) hbase (by simpa using h2)
 ·have hge := grownCap_ge w (l.length + news.length) cap 5
  have hle := grownCap_le_maxLen w (l.length + news.length) cap 5 (by unfold maxLen; omega)
  have hr := run_append_grow_src (P := Tryz.prog) w 130 9 ty 5 i0 (.int .u8 0) Tryz.underlying130 hi hz0 (some ⟨g, 0, none⟩) l.length cap (bv l) (by
    rw [hz1]
    refine run_firstCells_some w.drew 1 l.length ⟨g, 0, none⟩ l.length cap (bv l) (by rw [bv_len]; omega) (fun j u hu => ?_)
    have hj : j < l.length := by
     have := (List.getElem?_eq_some_iff.1 hu).1
     rw [bv_len] at this; exact this
    rw [Addr.add_lit, Nat.zero_add]
    refine (h6 j hj).trans ?_
    rw [← hu]
    simp [bv, List.getD, List.getElem?_eq_getElem hj]) _ news.length _ hsrc (by omega) (by omega) (by
    rw [hz2]
    have := nextslicecap_le (show cap < l.length + news.length by omega)
    omega)
  refine ⟨_, _, hr, ⟨w.heap.size, _, by rw [List.length_append], hbase, by simp, by rw [List.length_append]; exact hge, hle, fun i hi => ?_, fun i hi => ⟨?_, ?_⟩⟩, ?_⟩
  ·have hx : ((bv l ++ byteCells ⟨news.toArray⟩).toArray ++ Builtin.zeroCells (Value.int .u8 0).cells (grownCap w (l.length + news.length) cap 5 - (l.length + news.length)))[i]? = some (.int .u8 (((l ++ news).getD i 0).toNat : Int)) := by
    rw [List.length_append] at hi
    rw [Array.getElem?_append_left (by simp [bv_len, hnl]; omega)]
    simp only [List.getElem?_toArray]
    by_cases hil : i < l.length
    ·rw [List.getElem?_append_left (by rw [bv_len]; exact hil)]
     simp [bv, List.getD, List.getElem?_eq_getElem hil, List.getElem?_append_left hil]
    ·obtain ⟨j, rfl⟩ : ∃ j, i = l.length + j := ⟨i - l.length, by omega⟩
     rw [List.getElem?_append_right (by rw [bv_len]; omega), bv_len, Nat.add_sub_cancel_left, bcells_at news j (by omega)]
     simp [List.getD, List.getElem?_append_right]
   exact (Blk.new w.drew _ 5).cell i |>.trans hx
  ·have hx : i < ((bv l ++ byteCells ⟨news.toArray⟩).toArray ++ Builtin.zeroCells (Value.int .u8 0).cells (grownCap w (l.length + news.length) cap 5 - (l.length + news.length))).size := by
    simp [bv_len, hnl, size_zeroCells, Value.cells]
    omega
   show ((w.drew.alloc _).cell? ⟨w.drew.heap.size, i, none⟩).isSome = true
   rw [(Blk.new w.drew _ 5).cell i, Array.getElem?_eq_getElem hx]
   rfl
  ·exact (Blk.new w.drew _ 5).froz i
  ·exact (Below.refl _ _).drew.alloc hbase _
section
variable {ops : Array Oper} {o : Oper} {rest : List Oper} {a : Act} {w : World} {Q : Exit → Act → World → Prop}
theorem wpList_convO (hgd : o.guard = none) (x : Operand) (ho : o.op = .convert 9 130 x) (s : Bs) (hx : a.eval x = .string ⟨s.toArray⟩) (base : Nat) (hbase : base ≤ w.heap.size) (hs : s.length ≤ maxLen)
  (h : ∀ v' w', BOwn w' base v' s → Below base w w' → wpList Tryz.prog ops Q rest (a.put o.dst v') w') : wpList Tryz.prog ops Q (o :: rest) a w := by
 refine wpList_plain hgd fun K hK => ?_
 obtain ⟨v, w', hr, h2, h3⟩ := run_conv_own w s base hbase hs
 unfold Oper.wp execOp
 simp only [ho, hx, Sem.run_bind, Sem.run_pure, Result.andThen_ok, hr]
 exact hK _ _ (h v w' h2 h3)
theorem wpList_appO (hgd : o.guard = none) (s x : Operand)
  (ho : o.op = .call { callee := .builtin .append, args := #[s, x], argTypes := #[130, 9] })
  (base : Nat) (v : Value) (l : Bs) (hs : a.eval s = v) (hown : BOwn w base v l) (news : Bs) (hx : a.eval x = .string ⟨news.toArray⟩)
  (hlen : l.length + news.length ≤ 140737488355328) (hbase : base ≤ w.heap.size)
  (h : ∀ v' w', BOwn w' base v' (l ++ news) → Below base w w' → wpList Tryz.prog ops Q rest (a.put o.dst v') w') : wpList Tryz.prog ops Q (o :: rest) a w := by
 refine wpList_plain hgd fun K hK => ?_
 obtain ⟨v', w', hr, h2, h3⟩ := run_app_own w base v l news o.type hown hbase hlen
 unfold Oper.wp execOp
 simp only [ho, resolve, invoke, builtin, Sem.run_bind, Sem.run_pure, Result.andThen_ok, List.map_toArray, List.map_cons, List.map_nil, hs, hx, hr]
 exact hK _ _ (h v' w' h2 h3)
end
theorem clist_any (v : Value) (l : List Bs) (w : World) (hn : l.length ≤ 1000) (hl : ∀ i, i < l.length → (l.getD i []).length ≤ 1000000) (hv : SS w v l) :
  Calls Tryz.prog 155 #[v] w fun e w' => e = .returned (.string ⟨List.toArray (encS l)⟩) ∧ Below w.heap.size w w' := by
 generalize hr : encS l = r
 have HR := Lib.hid hr
 clear hr
 obtain ⟨a, c, rfl⟩ := hv.form
 have HV := Lib.hid hv
 have HL := Lib.hid hl
 have HB := Lib.hid (listB_len l 1000000 hl)
 clear hv hl
 go_enter Tryz.func155, Tryz.ntmps155
 go_wp2_with fail
 refine (cnum_any l.length (by omega) _).mono ?_
 rintro e w1 ⟨rfl, hb⟩
 have hn9 := num_len l.length
 have hws := hb.size
 go_wp2_with (first
  | (refine wpList_convO rfl (.tmp 8) rfl _ rfl w.heap.size hws (by unfold maxLen; omega) ?_; rintro v2 w2 hO hb2)
  | fail)
 have hb3 := hb.trans hb2
 clear hb hb2 hws
 go_wp2_with fail
 go_loopw [3, 12] (fun s3 s12 wr => ∃ i : Nat, i ≤ l.length ∧ s12 = .int .i64 i ∧ BOwn wr w.heap.size s3 (num l.length ++ listB (l.take i)) ∧ Below w.heap.size w wr) (fun _ s12 _ => l.length - (intOf s12).toNat)
 case atStart => exact ⟨0, by omega, rfl, by simpa [listB] using hO, hb3⟩
 case round =>
  obtain ⟨i, hi, rfl, hO, hb⟩ := hrel
  obtain ⟨wq, h⟩ := Below.nm hb
  subst h
  by_cases hlt : i < l.length
  ·obtain ⟨g, off, rfl, c1⟩ := (HV.out.keep hb).at i hlt
   have o1 := HL.out i hlt
   have hB := HB.out i (by omega)
   have hnx : num l.length ++ listB (l.take (i + 1)) = num l.length ++ listB (l.take i) ++ num (l.getD i []).length ++ l.getD i [] := by
    rw [takeS l i hlt, listB_app, text]
    simp only [List.append_assoc]
   have hs9 : (num l.length ++ listB (l.take i)).length ≤ 1100000000 := by rw [List.length_append]; have : i ≤ 1000 := (by omega); omega
   generalize hx : l.getD i [] = x at *
   generalize num l.length ++ listB (l.take i) = s at *
   have hx9 := num_len x.length
   clear hx hB HB
   go_wp2_with fail
   refine (cnum_any x.length (by omega) _).mono ?_
   rintro e w4 ⟨rfl, hb4⟩
   have hO4 := hO.keep hb4
   have hb5 := hb.trans (hb4.mono hb.size)
   have hz5 := hb5.size
   go_wp2_with (first
    | (at_builtin; refine wpList_appO rfl (.tmp 16) (.tmp 19) rfl w.heap.size _ s rfl hO4 _ rfl (by omega) hz5 ?_; rintro v6 w6 hO6 hb6; have hz6 := hb6.size)
    | (at_builtin; refine wpList_appO rfl (.tmp 21) (.tmp 22) rfl w.heap.size _ _ rfl hO6 _ rfl (by rw [List.length_append]; omega) (by omega) ?_; rintro v7 w7 hO7 hb7)
    | fail)
   exact ⟨⟨i + 1, by omega, by go_num, by rw [hnx]; exact hO7, (hb5.trans hb6).trans hb7⟩, by simp [intOf]; omega⟩
  ·obtain rfl : i = l.length := by omega
   have hc := hO.conv
   rw [List.take_length] at hc
   go_wp2_with fail
   all_goals (go_ret; refine ⟨?_, hb⟩; rw [← HR.out]; rfl)
end Go.Proofs.YthkpmlfaddlieaaGreatDoor
namespace Go.Proofs.YthkpmlfaddlieaaGreatDoor
open Go.RowKit Pl
theorem rflist_any (v : Value) (l : List Bs) (w : World) (hn : l.length ≤ 1000) (hl : ∀ i, i < l.length → (l.getD i []).length ≤ 1000000) (hv : SS w v l) :
  Calls Tryz.prog 132 #[v] w fun e w' => e = .returned (.string ⟨List.toArray (encS l)⟩) ∧ Below w.heap.size w w' := by
 generalize hr : encS l = r
 have HR := Lib.hid hr
 clear hr
 obtain ⟨a, c, rfl⟩ := hv.form
 have HV := Lib.hid hv
 have HL := Lib.hid hl
 have HB := Lib.hid (listB_len l 1000000 hl)
 clear hv hl
 go_enter Tryz.func132, Tryz.ntmps132
 go_wp2_with fail
 refine (rNumber_any l.length (by omega) _).mono ?_
 rintro e w1 ⟨rfl, hb⟩
 have hn9 := num_len l.length
 go_wp2_with fail
 go_loopw [3, 4] (fun s3 s4 wr => ∃ i : Nat, i ≤ l.length ∧ s4 = .int .i64 i ∧ s3 = .string ⟨List.toArray (num l.length ++ listB (l.take i))⟩ ∧ Below w.heap.size w wr) (fun _ s4 _ => l.length - (intOf s4).toNat)
 case atStart => exact ⟨0, by omega, rfl, by simp [listB], hb⟩
 case round =>
  clear hb
  obtain ⟨i, hi, rfl, rfl, hb⟩ := hrel
  obtain ⟨wq, h⟩ := Below.nm hb
  subst h
  by_cases hlt : i < l.length
  ·have hlt' : (i : Int) < (l.length : Int) := by omega
   obtain ⟨g, off, rfl, c1⟩ := (HV.out.keep hb).at i hlt
   have o1 := HL.out i hlt
   have hB := HB.out i (by omega)
   have hnx : num l.length ++ listB (l.take (i + 1)) = num l.length ++ listB (l.take i) ++ text (l.getD i []) := by
    rw [takeS l i hlt, listB_app, List.append_assoc]
   have hs9 : (num l.length ++ listB (l.take i)).length ≤ 1100000000 := by rw [List.length_append]; have : i ≤ 1000 := (by omega); omega
   generalize hx : l.getD i [] = x at *
   generalize num l.length ++ listB (l.take i) = s at *
   have hx9 := text_len x
   have hcat : ¬ 9223372036854775807 < s.length + (text x).length := by omega
   clear hx hB HB
   go_wp2_with fail
   refine (rText_any x (by omega) _).mono ?_
   rintro e w4 ⟨rfl, hb4⟩
   go_wp2_with fail
   exact ⟨⟨i + 1, by omega, by go_num, by rw [hnx], hb.trans (hb4.mono hb.size)⟩, by simp [intOf]; omega⟩
  ·obtain rfl : i = l.length := by omega
   rw [List.take_length]
   have hlt' : ¬ (l.length : Int) < (l.length : Int) := by omega
   go_wp2_with fail
   all_goals (go_ret; refine ⟨?_, hb⟩; rw [← HR.out]; rfl)
end Go.Proofs.YthkpmlfaddlieaaGreatDoor
namespace Go.Proofs.YthkpmlfaddlieaaGreatDoor
open Go.RowKit Go.Shelf Pl
def txs0 : Bs := tagP 3 (encS [])
theorem encAll_nil (w : World) : Calls Tryz.prog 98 #[.slice none 0 0] w fun e w' => e = .returned (.tuple #[.string ⟨List.toArray ((encS []))⟩, .int .i64 0]) ∧ Below w.heap.size w w' := by
 have q := rflist_any (.slice none 0 0) [] w (by simp) (by simp) ⟨none, 0, rfl, Nat.le_refl _, by unfold maxLen; omega, fun h => absurd rfl h⟩
 generalize encS [] = E at *
 go_enter Tryz.func98, Tryz.ntmps98
 go_wp2_with fail
 go_loopw [4, 5] (fun s4 s5 wr => s4 = .slice none 0 0 ∧ s5 = .int .i64 0 ∧ wr = w) (fun _ _ _ => 0)
 case atStart => exact ⟨rfl, rfl, rfl⟩
 case round =>
  obtain ⟨rfl, rfl, rfl⟩ := hrel
  go_wp2_with fail
  refine q.mono ?_
  rintro e w1 ⟨rfl, hb⟩
  go_wp2_with fail
  go_ret2
  exact ⟨rfl, hb⟩
theorem txroot_nil (w : World) : Calls Tryz.prog 65 #[.slice none 0 0] w fun e w' => e = .returned (.tuple #[.string ⟨txs0.toArray⟩, .int .i64 0]) ∧ Below w.heap.size w w' := by
 have q := encAll_nil w
 have hl : (encS []).length ≤ 1000 := by decide
 have q2 := fun W => tagged_any 3 (by omega) (encS []) (by omega) W
 have e0 : txs0 = tagP 3 (encS []) := rfl
 rw [← e0] at q2
 generalize encS [] = E at *
 generalize txs0 = T at *
 clear e0 hl
 go_enter Tryz.func65, Tryz.ntmps65
 go_wp2_with fail
 refine q.mono ?_
 rintro e w1 ⟨rfl, hb⟩
 go_wp2_with fail
 refine (q2 _).mono ?_
 rintro e w2 ⟨rfl, hb2⟩
 go_wp2_with fail
 go_ret2
 exact ⟨rfl, hb.trans (hb2.mono hb.size)⟩
theorem rcitems_nil (w : World) : Calls Tryz.prog 136 #[.slice none 0 0] w fun e w' => e = .returned (.tuple #[.slice none 0 0, .int .i64 0]) ∧ w = w' := by
 go_enter Tryz.func136, Tryz.ntmps136
 go_wp2_with fail
 go_loopw [4, 5] (fun s4 s5 wr => s4 = .slice none 0 0 ∧ s5 = .int .i64 0 ∧ wr = w) (fun _ _ _ => 0)
 case atStart => exact ⟨rfl, rfl, rfl⟩
 case round =>
  obtain ⟨rfl, rfl, rfl⟩ := hrel
  go_wp2_with fail
  go_ret2
  exact ⟨rfl, rfl⟩
theorem GoodR.nil : GoodR [] := ⟨by simp [Rise], by simp, by simp⟩
theorem rcroot_nil (w : World) : Calls Tryz.prog 102 #[.slice none 0 0] w fun e w' => e = .returned (.tuple #[.string ⟨List.toArray []⟩, .int .i64 0]) ∧ Below w.heap.size w w' := by
 have q := rcitems_nil w
 have q2 := rroot_any (.slice none 0 0) [] GoodR.nil w ⟨none, 0, rfl, Nat.le_refl _, by unfold maxLen; omega, fun h => absurd rfl h⟩
 rw [rootI_nil] at q2
 go_enter Tryz.func102, Tryz.ntmps102
 go_wp2_with fail
 refine q.mono ?_
 rintro e w1 ⟨rfl, rfl⟩
 go_wp2_with fail
 refine q2.mono ?_
 rintro e w2 ⟨rfl, hb2⟩
 go_wp2_with fail
 go_ret2
 exact ⟨rfl, hb2⟩
theorem row_done : RowT Tryz.prog 177 3 := RowT.mk' Tryz.underlying177 rfl (by kernel_rfl)
theorem rall_nil (a : Option Addr) (n c : Nat) (w : World) : Calls Tryz.prog 101 #[.slice a n c, .slice none 0 0] w fun e w' => e = .returned (.tuple #[.agg #[.slice a n c, .slice none 0 0, .slice none 0 0], .int .i64 0]) ∧ Below w.heap.size w w' := by
 go_enter Tryz.func101, Tryz.ntmps101
 go_wp2_with fail
 go_loopw [6] (fun s6 wr => s6 = .int .i64 0 ∧ wr = w.alloc (.cells #[.slice none 0 0, .slice none 0 0, .slice none 0 0] 177)) (fun _ _ => 0)
 case atStart => exact ⟨rfl, rfl⟩
 case round =>
  obtain ⟨rfl, rfl⟩ := hrel
  have hb0 : Below w.heap.size w ((w.alloc (.cells #[.slice none 0 0, .slice none 0 0, .slice none 0 0] 177)).alloc (.cells #[.slice a n c, .slice none 0 0, .slice none 0 0] 177)) := Below.allocS (Below.allocS (Below.refl _ _) _) _
  have B0 : Blk ((w.alloc (.cells #[.slice none 0 0, .slice none 0 0, .slice none 0 0] 177)).alloc (.cells #[.slice a n c, .slice none 0 0, .slice none 0 0] 177)) w.heap.size #[.slice none 0 0, .slice none 0 0, .slice none 0 0] := (Blk.new _ _ _).alloc _
  have B1 : Blk ((w.alloc (.cells #[.slice none 0 0, .slice none 0 0, .slice none 0 0] 177)).alloc (.cells #[.slice a n c, .slice none 0 0, .slice none 0 0] 177)) (w.heap.size + 1) #[.slice a n c, .slice none 0 0, .slice none 0 0] := Blk.new' (by simp)
  go_wp2_with fail
  go_loopw [8] (fun s8 wr => s8 = .int .i64 0 ∧ Blk wr w.heap.size #[.slice none 0 0, .slice none 0 0, .slice none 0 0] ∧ Blk wr (w.heap.size + 1) #[.slice a n c, .slice none 0 0, .slice none 0 0] ∧ Below w.heap.size w wr) (fun _ _ => 0)
  case atStart => exact ⟨rfl, B0, B1, hb0⟩
  case round =>
   clear hb0 B0 B1
   obtain ⟨rfl, B0, B1, hb⟩ := hrel
   obtain ⟨wr, hwr⟩ := Below.name hb
   subst hwr
   obtain ⟨b1, b2, b3⟩ := id B0
   obtain ⟨d1, d2, d3⟩ := id B1
   go_wp2_with fail
   have B2 := ((B0.set 0 (.slice a n c)).set 1 (.slice none 0 0)).set 2 (.slice none 0 0)
   have hm : Mod [w.heap.size] wr (((wr.setCell ⟨w.heap.size, 0, none⟩ (.slice a n c)).setCell ⟨w.heap.size, 1, none⟩ (.slice none 0 0)).setCell ⟨w.heap.size, 2, none⟩ (.slice none 0 0)) := (((Mod.refl _ _).setCell (.inl (by simp)) _).setCell (.inl (by simp)) _).setCell (.inl (by simp)) _
   refine bodyPost_ret (results_cell_tmp2 rfl _ _ _ _ rfl (row_loadVar row_done (vs := [.slice a n c, .slice none 0 0, .slice none 0 0]) _ rfl B2)) rfl ?_
   exact ⟨rfl, Below.mod hb hm hb.size (by simp)⟩
end Go.Proofs.YthkpmlfaddlieaaGreatDoor
namespace Go.Proofs.YthkpmlfaddlieaaGreatDoor
open Go.RowKit Go.Shelf Pl
structure EntI (S : List (Bs × Int)) (x : Ent) (i : Nat) : Prop where
 ht : x.head.height = i
 vw : x.head.view = i
 ep : x.head.epoch = if i = 0 then 0 else 1
 la : x.head.last = decide (i = 0)
 mb : x.head.members = dgM S
 nx : x.head.next = dgM S
 sm : x.sum = dgH x.head
 it : GoodR x.items
 st : x.set = S
 ne : x.next = S
def entZ : Ent := ⟨hdZ, [], [], [], []⟩
structure LedI (S : List (Bs × Int)) (E : List Ent) : Prop where
 ne : 1 ≤ E.length
 all : ∀ i, i < E.length → EntI S (E.getD i entZ) i
 chk : chkM S = true
def NewO (W : World) (S : List (Bs × Int)) (e : Ending) (w' : World) : Prop := Below W.heap.size W w' ∧
 ((∃ c : Int, c ≠ 0 ∧ e = .returned (.tuple #[.slice none 0 0, .int .i64 c])) ∨ (∃ v E, e = .returned (.tuple #[v, .int .i64 0]) ∧ EL w' v E ∧ LedI S E ∧ E.length = 1))
theorem el_one {w : World} {k : Nat} {y : EntX} (hB : Blk w k (ecsX y).toArray) (h : EntAt w y) : EL w (.slice (some ⟨k, 0, none⟩) 1 1) [y.e] :=
 ⟨[y], rfl, fun z hz => by rw [List.mem_singleton] at hz; subst hz; exact h, some ⟨k, 0, none⟩, 1, rfl, Nat.le_refl _, by unfold maxLen; omega, fun _ => ⟨k, 0, rfl, hB.lt, by
  have := hB.range
  simpa [List.flatMap_cons] using this⟩⟩
theorem hcs_one (h : Hd) (a : Option Addr) (n c : Nat) : ∀ u ∈ hcs h (.slice a n c), u.oneCell' = true := by
 intro u hu
 simp only [hcs, List.mem_cons, List.not_mem_nil, or_false] at hu
 rcases hu with rfl | rfl | rfl | rfl | rfl | rfl | rfl | rfl | rfl | rfl | rfl <;> rfl
theorem ss_nil (w : World) : SS w (.slice none 0 0) [] := ⟨none, 0, rfl, Nat.le_refl _, by unfold maxLen; omega, fun h => absurd rfl h⟩
theorem rnew_any (va vs : Value) (A : List Acc) (S : List (Bs × Int)) (w : World) (hA : AcL w va A) (hS : MS w vs S) :
  Calls Tryz.prog 29 #[va, vs] w (NewO w S) := by
 have q1 := rgenesis_any va vs A S w hA hS
 have HS := Lib.hid hS
 clear hA hS
 go_enter Tryz.func29, Tryz.ntmps29
 go_wp2_with fail
 refine q1.mono ?_
 rintro e w1 ⟨hb1, ⟨c, hc, rfl⟩ | ⟨v, l, rfl, hil, hgr, hch⟩⟩
 ·have hc2 : (c != 0) = true := by simpa using hc
  clear q1
  go_wp2_with fail
  go_ret2
  exact ⟨hb1, .inl ⟨c, hc, rfl⟩⟩
 ·clear q1
  have HIL := Lib.hid hil
  have HGR := Lib.hid hgr
  have HC := Lib.hid hch
  obtain ⟨ia, ic, rfl⟩ := hil.form
  obtain ⟨sa, sc, rfl⟩ := HS.out.form
  clear hil hgr hch
  go_wp2_with fail
  refine (txroot_nil _).mono ?_
  rintro e w2 ⟨rfl, hb2⟩
  have hb12 := hb1.trans (hb2.mono hb1.size)
  go_wp2_with fail
  refine (rmdigest_any _ S _ (HS.out.keep hb12)).mono ?_
  rintro e w3 ⟨rfl, hb3⟩
  have hb13 := hb12.trans (hb3.mono hb12.size)
  have hb2b := hb2.trans (hb3.mono hb2.size)
  generalize hT : txs0 = T at *
  generalize hD : dgM S = D at *
  go_wp2_with fail
  refine (rroot_any _ l HGR.out _ (HIL.out.keep hb2b)).mono ?_
  rintro e w4 ⟨rfl, hb4⟩
  have hb14 := hb13.trans (hb4.mono hb13.size)
  have hbI := hb2b.trans (hb4.mono hb2b.size)
  generalize rootI l = R at *
  go_wp2_with (first
   | (refine wpList_rowStore row_head rfl rfl (.tmp 11) (.tmp 32) rfl rfl (vs := hcs ⟨0, 0, 0, true, [], R, [], T, D, D, []⟩ (.slice none 0 0)) rfl rfl (hcs_one _ _ _ _) (us := hcs hdZ (.slice none 0 0)) rfl (Blk.new' (by simp)) ?_; intro w5 N5 m5)
   | fail)
  have hb5 : Below w4.heap.size w4 w5 := Below.mod (Below.allocS (Below.refl _ _) _) m5 (by simp) (by simp)
  have hbw := hb14.trans (hb5.mono hb14.size)
  have hbl := hbI.trans (hb5.mono hbI.size)
  have qd := fun (X : World) => rhd_digest 0 0 0 true [] R [] T D D [] none 0 X (ss_nil X)
  generalize hX : dgH ⟨0, 0, 0, true, [], R, [], T, D, D, []⟩ = X at *
  have HX := Lib.hid hX
  have HBW := Lib.hid hbw
  have HI5 := Lib.hid (HIL.out.keep hbl)
  have HS5 := Lib.hid (HS.out.keep hbw)
  have HEI : Hid (EntI S ⟨⟨0, 0, 0, true, [], R, [], T, D, D, []⟩, X, l, S, S⟩ 0) := Lib.hid ⟨rfl, rfl, rfl, rfl, hD.symm, hD.symm, hX.symm, HGR.out, rfl, rfl⟩
  clear hX m5 hb1 hb2 hb3 hb4 hb5 hb12 hb13 hb14 hb2b hbI hbw hbl hT hD
  refine wpH_start (by kernel_rfl) (fun hS => ?_)
  refine wpH_row row_head 0 (oi := ⟨some 33,.load 48 (.tmp 11),48,"ref.go:43",#[],none⟩) rfl (by kernel_rfl) (by kernel_rfl) (by kernel_rfl) (by rfl) hS (vs := hcs ⟨0, 0, 0, true, [], R, [], T, D, D, []⟩ (.slice none 0 0)) (fun _ _ _ h => h) (.tmp 11) rfl rfl (rfl) (fun w' hb2 => N5.keep hb2) ?_
  try simp only [pna, pnb, pnc, pnd, pne]
  refine wpH_row row_head 1 (oi := ⟨some 34,.load 48 (.tmp 11),48,"ref.go:43",#[],none⟩) rfl (by kernel_rfl) (by kernel_rfl) (by kernel_rfl) (by rfl) hS (vs := hcs ⟨0, 0, 0, true, [], R, [], T, D, D, []⟩ (.slice none 0 0)) (fun _ _ _ h => h) (.tmp 11) rfl rfl (rfl) (fun w' hb2 => N5.keep hb2) ?_
  try simp only [pna, pnb, pnc, pnd, pne]
  (refine hP 3 ?_ ⟨some 36, .move (.tmp 6), 38, "", #[], none⟩ hS ?_ ?_; rotate_left; focus (intro w; go_simp; try with_reducible rfl))
  try simp only [pna, pnb, pnc, pnd, pne]
  (refine hP 4 ?_ ⟨some 37, .move (.tmp 1), 23, "", #[], none⟩ hS ?_ ?_; rotate_left; focus (intro w; go_simp; try with_reducible rfl))
  try simp only [pna, pnb, pnc, pnd, pne]
  (refine hP 5 ?_ ⟨some 38, .move (.tmp 1), 23, "", #[], none⟩ hS ?_ ?_; rotate_left; focus (intro w; go_simp; try with_reducible rfl))
  try simp only [pna, pnb, pnc, pnd, pne]
  refine wpH_call 2 (oi := ⟨some 35,.call { callee := .value (.func 33), args := #[.tmp 34], argTypes := #[48] },9,"ref.go:43",#[⟨1,.data⟩],none⟩) rfl (by kernel_rfl) (by rfl) (qd _) ?_ ?_
  ·(go_simp; try rfl)
  rintro e w' ⟨rfl, hbx⟩
  refine ⟨_, rfl, hS.trans (hbx.mono hS.size), ?_⟩
  replace hS := hS.trans (hbx.mono hS.size)
  try simp only [pna, pnb, pnc, pnd, pne]
  refine wpH_load 6 (.agg (ecs ⟨⟨0, 0, 0, true, [], R, [], T, D, D, []⟩, X, l, S, S⟩ (.slice none 0 0) (.slice ia l.length ic) (.slice sa S.length sc) (.slice sa S.length sc)).toArray) (oi := ⟨some 39,.build 52 #[(0, .tmp 33), (1, .tmp 35), (4, .tmp 36), (5, .tmp 37), (6, .tmp 38)],52,"ref.go:43",#[⟨0,.data⟩, ⟨2,.data⟩, ⟨3,.data⟩, ⟨4,.data⟩, ⟨5,.data⟩],none⟩) rfl (by kernel_rfl) (by kernel_rfl) (by kernel_rfl) (by rfl) hS (fun _ _ _ h => h) (fun w' hb2 => (by kernel_rfl)) ?_
  try simp only [pna, pnb, pnc, pnd, pne]
  refine wpH_op 7 (oi := ⟨some 40,.buildSlice 31 1 #[(0, .tmp 39)],31,"ref.go:43",#[⟨6,.data⟩],none⟩) rfl (by kernel_rfl) (by rfl) ?_
  refine wp_newK 52 (ecs ⟨⟨0, 0, 0, true, [], R, [], T, D, D, []⟩, X, l, S, S⟩ (.slice none 0 0) (.slice ia l.length ic) (.slice sa S.length sc) (.slice sa S.length sc)).toArray (fun k => .slice (some ⟨k, 0, none⟩) 1 1) (fun W2 => (by kernel_rfl)) ?_
  intro k3 w6 hk3 hh3 hl3 hb6
  refine ⟨hS.trans (hb6.mono hS.size), ?_⟩
  replace hS := hS.trans (hb6.mono hS.size)
  have KB := Blk.of_heap hh3 hl3
  try simp only [pna, pnb, pnc, pnd, pne]
  (refine hP 8 ?_ ⟨some 4, .assign (.tmp 40), 31, "", #[], none⟩ hS ?_ ?_; rotate_left; focus (intro w; go_simp; try with_reducible rfl))
  try simp only [pna, pnb, pnc, pnd, pne]
  (refine hP 9 ?_ ⟨some 5, .assign (.const (.int .i64 0)), 34, "", #[], none⟩ hS ?_ ?_; rotate_left; focus (intro w; go_simp; try with_reducible rfl))
  try simp only [pna, pnb, pnc, pnd, pne]
  refine wpAnyH_done (by kernel_rfl) ?_ _
  clear hh3 hb6 hbx N5
  go_wp2_with fail
  go_ret2
  refine ⟨HBW.out.trans (hS.mono HBW.out.size), .inr ⟨_, [⟨⟨0, 0, 0, true, [], R, [], T, D, D, []⟩, X, l, S, S⟩], rfl, el_one (y := ⟨⟨⟨0, 0, 0, true, [], R, [], T, D, D, []⟩, X, l, S, S⟩, .slice none 0 0, .slice ia l.length ic, .slice sa S.length sc, .slice sa S.length sc⟩) KB ⟨ss_nil _, HI5.out.keep hS, HS5.out.keep hS, HS5.out.keep hS⟩, ⟨by simp, fun i hi => ?_, HC.out⟩, rfl⟩⟩
  have : i = 0 := by simpa using hi
  subst this
  exact HEI.out
end Go.Proofs.YthkpmlfaddlieaaGreatDoor
namespace Go.Proofs.YthkpmlfaddlieaaGreatDoor
open Go.RowKit Go.Shelf Pl
def MakeO (W : World) (S : List (Bs × Int)) (n : Nat) (e : Ending) (w' : World) : Prop :=
 ∃ y : EntX, e = .returned (.tuple #[.agg (ecsX y).toArray, .int .i64 0]) ∧ EntAt w' y ∧ EntI S y.e n ∧ Below W.heap.size W w'
theorem ecs_one (x : Ent) (a1 a2 a3 a4 : Option Addr) (n1 n2 n3 n4 c1 c2 c3 c4 : Nat) : ∀ u ∈ ecs x (.slice a1 n1 c1) (.slice a2 n2 c2) (.slice a3 n3 c3) (.slice a4 n4 c4), u.oneCell' = true := by
 intro u hu
 simp only [ecs, List.mem_cons, List.not_mem_nil, or_false] at hu
 rcases hu with rfl | rfl | rfl | rfl | rfl | rfl | rfl | rfl | rfl | rfl | rfl | rfl | rfl | rfl | rfl | rfl | rfl <;> rfl
theorem SRow.modK {W w : World} {b : Nat} {v : Value} {l : List Bs} (h : SRow W b v l) {m : List Nat} (hm : Mod m W w) (hn : ∀ k ∈ m, k < b) : SRow w b v l := by
 refine h.kept (fun k hk => hm.block k ?_ (fun hx => ?_))
 ·rcases h.cells with ⟨e, _⟩ | ⟨g3, cap3, e, _, h4, _⟩
  ·rw [e] at hk; cases hk
  ·rw [e] at hk; cases hk; exact h4
 ·have := h.own k hk
  have := hn k hx
  omega
theorem ZRow.modK {W w : World} {b : Nat} {v : Value} {l : List Int} (h : ZRow W b v l) {m : List Nat} (hm : Mod m W w) (hn : ∀ k ∈ m, k < b) : ZRow w b v l := by
 refine h.kept (fun k hk => hm.block k ?_ (fun hx => ?_))
 ·rcases h.cells with ⟨e, _⟩ | ⟨g3, cap3, e, _, h4, _⟩
  ·rw [e] at hk; cases hk
  ·rw [e] at hk; cases hk; exact h4
 ·have := h.own k hk
  have := hn k hx
  omega
theorem Mod.bel {l : List Nat} {a w w' : World} {B : Nat} (h : Mod l a w) (hb : Below B w w') (hB : a.heap.size ≤ B) : Mod l a w' :=
 ⟨hb.os.trans h.os, hb.tape.trans h.tape, hb.output.trans h.output, Nat.le_trans h.size hb.size, fun k hk hn => (hb.block k (by omega)).trans (h.block k hk hn)⟩
theorem links_low : ∀ h : Nat, h ≤ 11 → ∀ x ∈ linksF (h : Int), 0 ≤ x ∧ x < (h : Int) := by decide +kernel
def skE (E : List Ent) (l : List Int) : List Bs := l.map fun x => (E.getD x.toNat entZ).sum
theorem skE_take (E : List Ent) (l : List Int) (i : Nat) (hi : i < l.length) : skE E (l.take (i + 1)) = skE E (l.take i) ++ [(E.getD (l.getD i 0).toNat entZ).sum] := by
 have e : l.getD i 0 = l[i] := by rw [List.getD_eq_getElem?_getD, List.getElem?_eq_getElem hi]; rfl
 unfold skE
 rw [e, List.take_add_one, List.getElem?_eq_getElem hi, List.map_append]
 rfl
theorem rmake_any (v : Value) (E : List Ent) (S : List (Bs × Int)) (w : World) (hE : LedI S E) (hv : EL w v E) (hn : E.length ≤ 10) :
  Calls Tryz.prog 68 #[v, .int .i64 E.length, .slice none 0 0] w (MakeO w S E.length) := by
 obtain ⟨va, vc, rfl⟩ := hv.form
 obtain ⟨m, hm⟩ : ∃ m, E.length = m + 1 := ⟨E.length - 1, by have := hE.ne; omega⟩
 obtain ⟨p, hp⟩ : ∃ p, E[m]? = some p := ⟨E[m], List.getElem?_eq_getElem (by omega)⟩
 have hpi : EntI S p m := by
  have := hE.all m (by omega)
  rw [List.getD_eq_getElem?_getD, hp] at this
  exact this
 obtain ⟨g, off, sk, it, st, nx, e1, hg, hr, hat⟩ := hv.at m p hp
 subst e1
 obtain ⟨⟨ht, ep, vw, la, pa, sta, rc, tx, mb, nxh, K⟩, X, l, S1, S2⟩ := p
 obtain ⟨h1, h2, h3, h4, h5, h6, h7, h8, h9, h10⟩ := hpi
 simp only at h1 h2 h3 h4 h5 h6 h7 h8 h9 h10
 subst h1 h2 h3 h4 h5 h6 h9 h10
 have HX := Lib.hid h7
 have HGR := Lib.hid h8
 obtain ⟨k1, k2, k3, k4⟩ := hat
 simp only at k1 k2 k3 k4
 obtain ⟨ka, kc, rfl⟩ := k1.form
 obtain ⟨ia, ic, rfl⟩ := k2.form
 obtain ⟨sa, sc, rfl⟩ := k3.form
 obtain ⟨na, nc, rfl⟩ := k4.form
 have HIL := Lib.hid k2
 have HMS := Lib.hid k3
 have HNS := Lib.hid k4
 have HV := Lib.hid hv
 have HE := Lib.hid hE
 rw [hm]
 have HEP : Hid ((if m = 0 then (0 : Int) else 1) + (if decide (m = 0) = true then 1 else 0) = 1 ∧ (if m = 0 then (0 : Int) else 1) ≤ 1 ∧ (0 : Int) ≤ (if m = 0 then (0 : Int) else 1)) := Lib.hid (by by_cases h : m = 0 <;> simp [h])
 generalize (if m = 0 then (0 : Int) else 1) = ep at *
 generalize decide (m = 0) = lb at *
 generalize hD : dgM S2 = D at *
 have i1 : IntKind.i64.wrap ((m : Int) + 1 - 1) = (m : Int) := by rw [IntKind.wrap_i64]; omega
 have i2 : (m : Int) < (m : Int) + 1 := by omega
 have i3 : (0 : Int) ≤ (m : Int) := by omega
 have i4 : (m : Int) + 1 ≤ 10 := by omega
 have j1 : decide ((m : Int) + 1 < 1) = false := by rw [decide_eq_false_iff_not]; omega
 have j2 : decide ((1048576 : Int) < (m : Int) + 1) = false := by rw [decide_eq_false_iff_not]; omega
 have j3 : decide ((1048576 : Int) ≤ (m : Int)) = false := by rw [decide_eq_false_iff_not]; omega
 have j4 : decide ((m : Int) + 1 ≤ (m : Int)) = false := by rw [decide_eq_false_iff_not]; omega
 clear h7 h8 hv hE hp k1 k2 k3 k4
 have hep := HEP.out
 clear HEP
 go_enter Tryz.func68, Tryz.ntmps68
 go_upto_region 4 with (first
  | (refine wpList_rowR row_ent rfl (.tmp 19) rfl rfl (vs := ecs ⟨⟨m, ep, m, lb, pa, sta, rc, tx, D, D, K⟩, X, l, S2, S2⟩ (.slice ka K.length kc) (.slice ia l.length ic) (.slice sa S2.length sc) (.slice na S2.length nc)) rfl (rg_keep hr hg (Below.allocS (Below.refl _ _) _)) ?_)
  | (refine wpList_rowStore row_ent rfl rfl (.tmp 8) (.tmp 20) rfl rfl (vs := ecs ⟨⟨m, ep, m, lb, pa, sta, rc, tx, D, D, K⟩, X, l, S2, S2⟩ (.slice ka K.length kc) (.slice ia l.length ic) (.slice sa S2.length sc) (.slice na S2.length nc)) rfl rfl (ecs_one _ _ _ _ _ _ _ _ _ _ _ _ _) (us := ecs entZ (.slice none 0 0) (.slice none 0 0) (.slice none 0 0) (.slice none 0 0)) rfl (Blk.new' (by simp)) ?_; intro w5 N5 m5; have c0 := N5.cell 0; have c2 := N5.cell 2; have c3 := N5.cell 3; simp only [ecs, List.getElem?_toArray, List.getElem?_cons_zero, List.getElem?_cons_succ] at c0 c2 c3)
  | fail)
 have NR : Blk w5 w.heap.size (ecs entZ (.slice none 0 0) (.slice none 0 0) (.slice none 0 0) (.slice none 0 0)).toArray := ((Blk.new _ _ _).alloc _).mod m5 (by simp)
 have hb5 : Below w.heap.size w w5 := Below.mod (Below.allocS (Below.allocS (Below.refl _ _) _) _) m5 (by simp; omega) (by simp)
 have HP := Lib.hid N5
 have HR6 := Lib.hid NR
 clear hr m5 N5 NR
 go_cut [44] (fun s44 wx => s44 = .bool false ∧ wx = w5)
 case first =>
  cases lb
  ·go_wp2_with fail
   go_meet
   exact ⟨rfl, rfl⟩
  ·go_wp2_with fail
   go_meet
   exact ⟨rfl, rfl⟩
 case rest =>
  obtain ⟨rfl, rfl⟩ := hcut
  clear c0 c2 c3 j1 j2 j3 j4
  have c14 := HP.out.cell 14
  simp only [ecs, List.getElem?_toArray, List.getElem?_cons_zero, List.getElem?_cons_succ] at c14
  go_wp2_with fail
  refine (rall_nil ia l.length ic _).mono ?_
  rintro e w6 ⟨rfl, hb6⟩
  have hb56 := hb5.trans (hb6.mono hb5.size)
  have NP := (HP.out.keep hb6).alloc (.cells #[.slice ia l.length ic, .slice none 0 0, .slice none 0 0] 177)
  have ND : Blk (w6.alloc (.cells #[.slice ia l.length ic, .slice none 0 0, .slice none 0 0] 177)) w6.heap.size (List.toArray [.slice ia l.length ic, .slice none 0 0, .slice none 0 0]) := Blk.new _ _ _
  have hbD := Below.allocS hb56 (.cells #[.slice ia l.length ic, .slice none 0 0, .slice none 0 0] 177)
  have hD6 : w6.heap.size < (w6.alloc (.cells #[.slice ia l.length ic, .slice none 0 0, .slice none 0 0] 177)).heap.size := by simp
  have HR7 := Lib.hid ((HR6.out.keep hb6).alloc (.cells #[.slice ia l.length ic, .slice none 0 0, .slice none 0 0] 177))
  have hP6 := (HP.out.keep hb6).lt
  have hR6s := (HR6.out.keep hb6).lt
  clear HP HR6 c14
  go_upto_region 9 with fail
  generalize w6.alloc (.cells #[.slice ia l.length ic, .slice none 0 0, .slice none 0 0] 177) = WD at *
  have hi1 : IntKind.i64.wrap ((m : Int) + 1) = (m : Int) + 1 := by rw [IntKind.wrap_i64]; omega
  have qr := fun (W : World) (hb : Below WD.heap.size WD W) => rroot_any (.slice ia l.length ic) l HGR.out W (HIL.out.keep (hbD.trans (hb.mono hbD.size)))
  generalize hRI : rootI l = RI at *
  have HRI := Lib.hid hRI
  clear hRI
  go_cut [11] (fun s11 wx => ∃ k : Nat, s11 = .pointer (some ⟨k, 0, none⟩) ∧ Hid (Blk wx k (hcs ⟨(m : Int) + 1, ep, (m : Int) + 1, false, X, RI, [], [], D, D, []⟩ (.slice none 0 0)).toArray) ∧ WD.heap.size ≤ k ∧ Below WD.heap.size WD wx)
  case first =>
   refine wpH_start (by kernel_rfl) (fun hS => ?_)
   (refine hP 0 ?_ ⟨some 57, .fieldAddr 52 (.tmp 8) 0, 0, "", #[], none⟩ hS ?_ ?_; rotate_left; focus (intro w; go_simp; try with_reducible rfl))
   try simp only [pna, pnb, pnc, pnd, pne]
   (refine hP 1 ?_ ⟨some 58, .fieldAddr 48 (.tmp 57) 0, 0, "", #[], none⟩ hS ?_ ?_; rotate_left; focus (intro w; go_simp; try with_reducible rfl))
   try simp only [pna, pnb, pnc, pnd, pne]
   refine wpH_load 2 (.int .i64 m) (oi := ⟨some 59,.load 3 (.tmp 58),3,"ref.go:59",#[⟨1,.data⟩],none⟩) rfl (by kernel_rfl) (by kernel_rfl) (by kernel_rfl) (by rfl) hS (fun _ _ _ h => h) (fun w' hb2 => (by have c := (NP.keep hb2).cell 0; simp only [ecs, List.getElem?_toArray, List.getElem?_cons_zero, List.getElem?_cons_succ] at c; go_simp; try rfl)) ?_
   try simp only [pna, pnb, pnc, pnd, pne]
   refine wpH_load 3 (.int .i64 ((m : Int) + 1)) (oi := ⟨some 60,.binOp BinOp.add 3 (.tmp 59) (.const (Value.int IntKind.i64 1)) 3,3,"ref.go:59",#[⟨2,.data⟩],none⟩) rfl (by kernel_rfl) (by kernel_rfl) (by kernel_rfl) (by rfl) hS (fun _ _ _ h => h) (fun w' hb2 => (by go_simp)) ?_
   try simp only [pna, pnb, pnc, pnd, pne]
   (refine hP 4 ?_ ⟨some 61, .fieldAddr 52 (.tmp 8) 0, 0, "", #[], none⟩ hS ?_ ?_; rotate_left; focus (intro w; go_simp; try with_reducible rfl))
   try simp only [pna, pnb, pnc, pnd, pne]
   (refine hP 5 ?_ ⟨some 62, .fieldAddr 48 (.tmp 61) 1, 0, "", #[], none⟩ hS ?_ ?_; rotate_left; focus (intro w; go_simp; try with_reducible rfl))
   try simp only [pna, pnb, pnc, pnd, pne]
   refine wpH_load 6 (.int .i64 ep) (oi := ⟨some 63,.load 3 (.tmp 62),3,"ref.go:59",#[⟨5,.data⟩],none⟩) rfl (by kernel_rfl) (by kernel_rfl) (by kernel_rfl) (by rfl) hS (fun _ _ _ h => h) (fun w' hb2 => (by have c := (NP.keep hb2).cell 1; simp only [ecs, List.getElem?_toArray, List.getElem?_cons_zero, List.getElem?_cons_succ] at c; go_simp; try rfl)) ?_
   try simp only [pna, pnb, pnc, pnd, pne]
   (refine hP 7 ?_ ⟨some 64, .move (.tmp 1), 3, "", #[], none⟩ hS ?_ ?_; rotate_left; focus (intro w; go_simp; try with_reducible rfl))
   try simp only [pna, pnb, pnc, pnd, pne]
   (refine hP 8 ?_ ⟨some 65, .fieldAddr 177 (.tmp 9) 2, 0, "", #[], none⟩ hS ?_ ?_; rotate_left; focus (intro w; go_simp; try with_reducible rfl))
   try simp only [pna, pnb, pnc, pnd, pne]
   refine wpH_load 9 (.slice none 0 0) (oi := ⟨some 66,.load 23 (.tmp 65),23,"ref.go:59",#[⟨8,.data⟩],none⟩) rfl (by kernel_rfl) (by kernel_rfl) (by kernel_rfl) (by rfl) hS (fun _ _ _ h => h) (fun w' hb2 => (by have c := (ND.keep hb2).cell 2; go_simp; try rfl)) ?_
   try simp only [pna, pnb, pnc, pnd, pne]
   (refine hP 10 ?_ ⟨some 67, .call { callee := .builtin .len, args := #[.tmp 66], argTypes := #[23] }, 3, "", #[], none⟩ hS ?_ ?_; rotate_left; focus (intro w; go_simp; try with_reducible rfl))
   try simp only [pna, pnb, pnc, pnd, pne]
   (refine hP 11 ?_ ⟨some 68, .binOp .gtr 3 (.tmp 67) (.const (.int .i64 0)) 3, 4, "", #[], none⟩ hS ?_ ?_; rotate_left; focus (intro w; go_simp; try with_reducible rfl))
   try simp only [pna, pnb, pnc, pnd, pne]
   (refine hP 12 ?_ ⟨some 69, .fieldAddr 52 (.tmp 8) 1, 0, "", #[], none⟩ hS ?_ ?_; rotate_left; focus (intro w; go_simp; try with_reducible rfl))
   try simp only [pna, pnb, pnc, pnd, pne]
   refine wpH_load 13 (.string ⟨List.toArray X⟩) (oi := ⟨some 70,.load 9 (.tmp 69),9,"ref.go:59",#[⟨12,.data⟩],none⟩) rfl (by kernel_rfl) (by kernel_rfl) (by kernel_rfl) (by rfl) hS (fun _ _ _ h => h) (fun w' hb2 => (by have c := (NP.keep hb2).cell 11; simp only [ecs, List.getElem?_toArray, List.getElem?_cons_zero, List.getElem?_cons_succ] at c; go_simp; try rfl)) ?_
   try simp only [pna, pnb, pnc, pnd, pne]
   (refine hP 14 ?_ ⟨some 71, .fieldAddr 177 (.tmp 9) 0, 0, "", #[], none⟩ hS ?_ ?_; rotate_left; focus (intro w; go_simp; try with_reducible rfl))
   try simp only [pna, pnb, pnc, pnd, pne]
   refine wpH_load 15 (.slice ia l.length ic) (oi := ⟨some 72,.load 38 (.tmp 71),38,"ref.go:59",#[⟨14,.data⟩],none⟩) rfl (by kernel_rfl) (by kernel_rfl) (by kernel_rfl) (by rfl) hS (fun _ _ _ h => h) (fun w' hb2 => (by have c := (ND.keep hb2).cell 0; go_simp; try rfl)) ?_
   try simp only [pna, pnb, pnc, pnd, pne]
   (refine hP 17 ?_ ⟨some 74, .fieldAddr 52 (.tmp 8) 0, 0, "", #[], none⟩ hS ?_ ?_; rotate_left; focus (intro w; go_simp; try with_reducible rfl))
   try simp only [pna, pnb, pnc, pnd, pne]
   (refine hP 18 ?_ ⟨some 75, .fieldAddr 48 (.tmp 74) 9, 0, "", #[], none⟩ hS ?_ ?_; rotate_left; focus (intro w; go_simp; try with_reducible rfl))
   try simp only [pna, pnb, pnc, pnd, pne]
   refine wpH_load 19 (.string ⟨List.toArray D⟩) (oi := ⟨some 76,.load 9 (.tmp 75),9,"ref.go:59",#[⟨18,.data⟩],none⟩) rfl (by kernel_rfl) (by kernel_rfl) (by kernel_rfl) (by rfl) hS (fun _ _ _ h => h) (fun w' hb2 => (by have c := (NP.keep hb2).cell 9; simp only [ecs, List.getElem?_toArray, List.getElem?_cons_zero, List.getElem?_cons_succ] at c; go_simp; try rfl)) ?_
   try simp only [pna, pnb, pnc, pnd, pne]
   (refine hP 20 ?_ ⟨some 77, .fieldAddr 52 (.tmp 8) 0, 0, "", #[], none⟩ hS ?_ ?_; rotate_left; focus (intro w; go_simp; try with_reducible rfl))
   try simp only [pna, pnb, pnc, pnd, pne]
   (refine hP 21 ?_ ⟨some 78, .fieldAddr 48 (.tmp 77) 9, 0, "", #[], none⟩ hS ?_ ?_; rotate_left; focus (intro w; go_simp; try with_reducible rfl))
   try simp only [pna, pnb, pnc, pnd, pne]
   refine wpH_load 22 (.string ⟨List.toArray D⟩) (oi := ⟨some 79,.load 9 (.tmp 78),9,"ref.go:59",#[⟨21,.data⟩],none⟩) rfl (by kernel_rfl) (by kernel_rfl) (by kernel_rfl) (by rfl) hS (fun _ _ _ h => h) (fun w' hb2 => (by have c := (NP.keep hb2).cell 9; simp only [ecs, List.getElem?_toArray, List.getElem?_cons_zero, List.getElem?_cons_succ] at c; go_simp; try rfl)) ?_
   try simp only [pna, pnb, pnc, pnd, pne]
   refine wpAnyH_all (rs := [16, 24]) (by kernel_rfl) (by simp) (fun jj hjj => ?_)
   simp only [List.mem_cons, List.not_mem_nil, or_false] at hjj
   rcases hjj with rfl | rfl
   refine wpO_call (oi := ⟨some 73,.call { callee := .value (.func 67), args := #[.tmp 72], argTypes := #[38] },9,"ref.go:59",#[⟨15,.data⟩],none⟩) rfl (by rfl) (qr _ hS) ?_ ?_
   ·(go_simp; try rfl)
   rintro e w' ⟨rfl, hbx⟩
   refine ⟨_, rfl, hS.trans (hbx.mono hS.size), ?_⟩
   replace hS := hS.trans (hbx.mono hS.size)
   try (have KH := KH.keep hbx)
   try simp only [pna, pnb, pnc, pnd, pne]
   refine wpH_load 23 (.agg (hcs ⟨(m : Int) + 1, ep, (m : Int) + 1, false, X, RI, [], [], D, D, []⟩ (.slice none 0 0)).toArray) (oi := ⟨some 80,.build 48 #[(0, .tmp 60), (1, .tmp 63), (2, .tmp 64), (3, .tmp 68), (4, .tmp 70), (5, .tmp 73), (8, .tmp 76), (9, .tmp 79)],48,"ref.go:59",#[⟨3,.data⟩, ⟨6,.data⟩, ⟨7,.data⟩, ⟨11,.data⟩, ⟨13,.data⟩, ⟨16,.data⟩, ⟨19,.data⟩, ⟨22,.data⟩],none⟩) rfl (by kernel_rfl) (by kernel_rfl) (by kernel_rfl) (by rfl) hS (fun _ _ _ h => h) (fun w' hb2 => (by kernel_rfl)) ?_
   try simp only [pna, pnb, pnc, pnd, pne]
   refine wpH_op 24 (oi := ⟨some 11,.alloc 48,0,"ref.go:59",#[],none⟩) rfl (by kernel_rfl) (by rfl) ?_
   refine wp_allocK 48 rfl (hcs hdZ (.slice none 0 0)).toArray (fun W2 => (by kernel_rfl)) ?_
   intro kH w8 hkH KH hb8
   have hkD : WD.heap.size ≤ kH := Nat.le_trans hS.size hkH
   refine ⟨hS.trans (hb8.mono hS.size), ?_⟩
   replace hS := hS.trans (hb8.mono hS.size)
   try simp only [pna, pnb, pnc, pnd, pne]
   refine wpH_op 25 (oi := ⟨none,.store 48 (.tmp 11) (.tmp 80),0,"ref.go:59",#[⟨24,.data⟩, ⟨23,.data⟩, ⟨16,.chain⟩, ⟨0,.phase⟩, ⟨1,.phase⟩, ⟨2,.phase⟩, ⟨3,.phase⟩, ⟨4,.phase⟩, ⟨5,.phase⟩, ⟨6,.phase⟩, ⟨7,.phase⟩, ⟨8,.phase⟩, ⟨9,.phase⟩, ⟨10,.phase⟩, ⟨11,.phase⟩, ⟨12,.phase⟩, ⟨13,.phase⟩, ⟨14,.phase⟩, ⟨15,.phase⟩, ⟨16,.phase⟩, ⟨17,.phase⟩, ⟨18,.phase⟩, ⟨19,.phase⟩, ⟨20,.phase⟩, ⟨21,.phase⟩, ⟨22,.phase⟩, ⟨23,.phase⟩, ⟨24,.phase⟩],none⟩) rfl (by kernel_rfl) (by rfl) ?_
   refine wp_rowS row_head (.tmp 11) (.tmp 80) rfl rfl (vs := hcs ⟨(m : Int) + 1, ep, (m : Int) + 1, false, X, RI, [], [], D, D, []⟩ (.slice none 0 0)) rfl rfl (hcs_one _ _ _ _) (us := hcs hdZ (.slice none 0 0)) rfl KH ?_
   intro w9 N9 m9
   have hb9 : Below WD.heap.size WD w9 := Below.mod hS m9 hS.size (by simpa using hkD)
   refine ⟨hb9, ?_⟩
   try simp only [pna, pnb, pnc, pnd, pne]
   refine wpAnyH_done (by kernel_rfl) ?_ _
   rotate_left
   refine wpO_op (oi := ⟨some 11,.alloc 48,0,"ref.go:59",#[],none⟩) rfl (by rfl) ?_
   refine wp_allocK 48 rfl (hcs hdZ (.slice none 0 0)).toArray (fun W2 => (by kernel_rfl)) ?_
   intro kH w8 hkH KH hb8
   have hkD : WD.heap.size ≤ kH := Nat.le_trans hS.size hkH
   refine ⟨hS.trans (hb8.mono hS.size), ?_⟩
   replace hS := hS.trans (hb8.mono hS.size)
   try simp only [pna, pnb, pnc, pnd, pne]
   refine wpH_call 16 (oi := ⟨some 73,.call { callee := .value (.func 67), args := #[.tmp 72], argTypes := #[38] },9,"ref.go:59",#[⟨15,.data⟩],none⟩) rfl (by kernel_rfl) (by rfl) (qr _ hS) ?_ ?_
   ·(go_simp; try rfl)
   rintro e w' ⟨rfl, hbx⟩
   refine ⟨_, rfl, hS.trans (hbx.mono hS.size), ?_⟩
   replace hS := hS.trans (hbx.mono hS.size)
   try (have KH := KH.keep hbx)
   try simp only [pna, pnb, pnc, pnd, pne]
   refine wpH_load 23 (.agg (hcs ⟨(m : Int) + 1, ep, (m : Int) + 1, false, X, RI, [], [], D, D, []⟩ (.slice none 0 0)).toArray) (oi := ⟨some 80,.build 48 #[(0, .tmp 60), (1, .tmp 63), (2, .tmp 64), (3, .tmp 68), (4, .tmp 70), (5, .tmp 73), (8, .tmp 76), (9, .tmp 79)],48,"ref.go:59",#[⟨3,.data⟩, ⟨6,.data⟩, ⟨7,.data⟩, ⟨11,.data⟩, ⟨13,.data⟩, ⟨16,.data⟩, ⟨19,.data⟩, ⟨22,.data⟩],none⟩) rfl (by kernel_rfl) (by kernel_rfl) (by kernel_rfl) (by rfl) hS (fun _ _ _ h => h) (fun w' hb2 => (by kernel_rfl)) ?_
   try simp only [pna, pnb, pnc, pnd, pne]
   refine wpH_op 25 (oi := ⟨none,.store 48 (.tmp 11) (.tmp 80),0,"ref.go:59",#[⟨24,.data⟩, ⟨23,.data⟩, ⟨16,.chain⟩, ⟨0,.phase⟩, ⟨1,.phase⟩, ⟨2,.phase⟩, ⟨3,.phase⟩, ⟨4,.phase⟩, ⟨5,.phase⟩, ⟨6,.phase⟩, ⟨7,.phase⟩, ⟨8,.phase⟩, ⟨9,.phase⟩, ⟨10,.phase⟩, ⟨11,.phase⟩, ⟨12,.phase⟩, ⟨13,.phase⟩, ⟨14,.phase⟩, ⟨15,.phase⟩, ⟨16,.phase⟩, ⟨17,.phase⟩, ⟨18,.phase⟩, ⟨19,.phase⟩, ⟨20,.phase⟩, ⟨21,.phase⟩, ⟨22,.phase⟩, ⟨23,.phase⟩, ⟨24,.phase⟩],none⟩) rfl (by kernel_rfl) (by rfl) ?_
   refine wp_rowS row_head (.tmp 11) (.tmp 80) rfl rfl (vs := hcs ⟨(m : Int) + 1, ep, (m : Int) + 1, false, X, RI, [], [], D, D, []⟩ (.slice none 0 0)) rfl rfl (hcs_one _ _ _ _) (us := hcs hdZ (.slice none 0 0)) rfl KH ?_
   intro w9 N9 m9
   have hb9 : Below WD.heap.size WD w9 := Below.mod hS m9 hS.size (by simpa using hkD)
   refine ⟨hb9, ?_⟩
   try simp only [pna, pnb, pnc, pnd, pne]
   refine wpAnyH_done (by kernel_rfl) ?_ _
   rotate_left
   all_goals
    go_wp2_with fail
    go_meet
    exact ⟨kH, rfl, Lib.hid N9, hkD, hb9⟩
  case rest =>
   obtain ⟨kH, rfl, HH, hkD, hb9⟩ := hcut
   obtain ⟨w9, hw9⟩ := Below.name hb9
   subst hw9
   have HNP := Lib.hid (NP.keep hb9)
   have HND := Lib.hid (ND.keep hb9)
   have c3 := HNP.out.cell 3
   simp only [ecs, List.getElem?_toArray, List.getElem?_cons_zero, List.getElem?_cons_succ] at c3
   clear NP ND qr hb6 hb5 hi1
   go_upto_if 83 with fail
   go_cut [11] (fun s11 wx => s11 = .pointer (some ⟨kH, 0, none⟩) ∧ Hid (Blk wx kH (hcs ⟨(m : Int) + 1, 1, (m : Int) + 1, false, X, RI, [], [], D, D, []⟩ (.slice none 0 0)).toArray) ∧ Mod [kH] w9 wx)
   case first =>
    cases lb
    ·have e1 : ep = 1 := by simpa using hep.1
     subst e1
     go_wp2_with fail
     go_meet
     exact ⟨rfl, HH, Mod.refl _ _⟩
    ·have e1 : ep = 0 := by have := hep.1; simp at this; omega
     subst e1
     have c1 := HH.out.cell 1
     have cf := HH.out.froz 1
     have cl := HH.out.lt
     simp only [hcs, List.getElem?_toArray, List.getElem?_cons_zero, List.getElem?_cons_succ] at c1
     go_wp2_with fail
     go_meet
     exact ⟨rfl, Lib.hid (HH.out.set 1 (.int .i64 1)), (Mod.refl _ _).setCell (.inl (by simp)) _⟩
   case rest =>
    clear HH c3
    obtain ⟨rfl, HH, m10⟩ := hcut
    obtain ⟨w10, hw10⟩ : ∃ w', w' = wc := ⟨_, rfl⟩
    subst hw10
    have NPx := HNP.out.mod m10 (by simp; omega)
    have NDx := HND.out.mod m10 (by simp; omega)
    have hb10 : Below WD.heap.size WD w10 := Below.mod hb9 m10 hb9.size (by simpa using hkD)
    have h3 := HH.out.cell 3
    have p16 := NPx.cell 16
    have d1 := NDx.cell 1
    simp only [hcs, ecs, List.getElem?_toArray, List.getElem?_cons_zero, List.getElem?_cons_succ] at h3 p16 d1
    have HNP := Lib.hid NPx
    have HND := Lib.hid NDx
    clear NPx NDx hb9 m10
    go_wp2_with fail
    refine (rcroot_nil _).mono ?_
    rintro e w11 ⟨rfl, hb11⟩
    have HH := Lib.hid (HH.out.keep hb11)
    have HNP := Lib.hid (HNP.out.keep hb11)
    have HND := Lib.hid (HND.out.keep hb11)
    have hb11 := hb10.trans (hb11.mono hb10.size)
    have c6 := HH.out.cell 6
    have f6 := HH.out.froz 6
    have cl := HH.out.lt
    simp only [hcs, List.getElem?_toArray, List.getElem?_cons_zero, List.getElem?_cons_succ] at c6
    clear h3 p16 d1 hb10
    go_wp2_with fail
    have m12 : Mod [kH] w11 (w11.setCell ⟨kH, 6, none⟩ (.string ⟨List.toArray []⟩)) := (Mod.refl _ _).setCell (.inl (by simp)) _
    have HH := Lib.hid (HH.out.set 6 (.string ⟨List.toArray []⟩))
    have HNP := Lib.hid (HNP.out.mod m12 (by simp; omega))
    have HND := Lib.hid (HND.out.mod m12 (by simp; omega))
    have hb12 : Below WD.heap.size WD (w11.setCell ⟨kH, 6, none⟩ (.string ⟨List.toArray []⟩)) := Below.mod hb11 m12 hb11.size (by simpa using hkD)
    clear c6 f6 cl m12 hb11
    refine (txroot_nil _).mono ?_
    rintro e w13 ⟨rfl, hb13⟩
    have HH := Lib.hid (HH.out.keep hb13)
    have HNP := Lib.hid (HNP.out.keep hb13)
    have HND := Lib.hid (HND.out.keep hb13)
    have hb13 := hb12.trans (hb13.mono hb12.size)
    have c7 := HH.out.cell 7
    have f7 := HH.out.froz 7
    have c0 := HH.out.cell 0
    have cl := HH.out.lt
    simp only [hcs, List.setIfInBounds_toArray, List.set_cons_zero, List.set_cons_succ, List.getElem?_toArray, List.getElem?_cons_zero, List.getElem?_cons_succ] at c7 c0
    generalize hT : txs0 = T at *
    have HT := Lib.hid hT
    clear hb12 hT
    go_wp2_with fail
    have m14 : Mod [kH] w13 (w13.setCell ⟨kH, 7, none⟩ (.string ⟨List.toArray T⟩)) := (Mod.refl _ _).setCell (.inl (by simp)) _
    have HH := Lib.hid (HH.out.set 7 (.string ⟨List.toArray T⟩))
    have HNP := Lib.hid (HNP.out.mod m14 (by simp; omega))
    have HND := Lib.hid (HND.out.mod m14 (by simp; omega))
    have hb14 : Below WD.heap.size WD (w13.setCell ⟨kH, 7, none⟩ (.string ⟨List.toArray T⟩)) := Below.mod hb13 m14 hb13.size (by simpa using hkD)
    have qlk := fun W => rlinks_any ((m : Int) + 1) W
    have hlow := links_low (m + 1) (by omega)
    rw [show ((m + 1 : Nat) : Int) = (m : Int) + 1 from rfl] at hlow
    have hll := linksF_len ((m : Int) + 1)
    generalize hLK : linksF ((m : Int) + 1) = LK at *
    have hkB := HH.out.lt
    clear c7 f7 c0 cl m14 hb13 hLK
    refine (qlk _).mono ?_
    rintro e w15 ⟨lv, rfl, hz, hb15⟩
    have HH := Lib.hid (HH.out.keep hb15)
    have HNP := Lib.hid (HNP.out.keep hb15)
    have HND := Lib.hid (HND.out.keep hb15)
    have hb15 := hb14.trans (hb15.mono hb14.size)
    have HV15 := Lib.hid (HV.out.keep (hbD.trans (hb15.mono hbD.size)))
    have HZ := Lib.hid hz
    obtain ⟨za, zc, rfl⟩ := hz.form
    have hkl := HH.out.lt
    have HLOW := Lib.hid hlow
    have HB15 := Lib.hid hb15
    clear qlk hz hlow hb14 hb15
    go_wp2_with fail
    go_loopw [14] (fun s14 wr => ∃ (i : Nat) (sk : Value), s14 = .int .i64 i ∧ i ≤ LK.length ∧ Hid (Blk wr kH (hcs ⟨(m : Int) + 1, 1, (m : Int) + 1, false, X, RI, [], T, D, D, []⟩ sk).toArray) ∧ Hid (SRow wr w15.heap.size sk (skE E (LK.take i))) ∧ Mod [kH] w15 wr) (fun s14 _ => LK.length - (intOf s14).toNat)
    case atStart => exact ⟨0, .slice none 0 0, rfl, Nat.zero_le _, HH, Lib.hid (SRow.nil _ _), Mod.refl _ _⟩
    case round =>
     clear HH
     obtain ⟨i, sk, rfl, hi, HH, HS, mr⟩ := hrel
     obtain ⟨wr, hwr⟩ : ∃ w', w' = wr := ⟨_, rfl⟩
     subst hwr
     obtain ⟨sa', sc', e6⟩ := HS.out.form
     by_cases hlt : i < LK.length
     ·have hb15 := HB15.out
      have hbr : Below w.heap.size w wr := Below.mod (hbD.trans (hb15.mono hbD.size)) mr (by have := hbD.size; have := hb15.size; omega) (by simp; have := hbD.size; omega)
      obtain ⟨j, hj, hjm⟩ : ∃ j : Nat, LK.getD i 0 = (j : Int) ∧ j < m + 1 := by
       have hmem : LK.getD i 0 ∈ LK := by rw [List.getD_eq_getElem?_getD, List.getElem?_eq_getElem hlt]; exact List.getElem_mem _
       have := HLOW.out _ hmem
       exact ⟨(LK.getD i 0).toNat, by omega, by omega⟩
      obtain ⟨q, hq⟩ : ∃ q, E[j]? = some q := ⟨E[j], List.getElem?_eq_getElem (by omega)⟩
      obtain ⟨g2, off2, sk2, it2, st2, nx2, e2, hg2, hr2, _⟩ := (HV.out.keep hbr).at j q hq
      injection e2 with e2
      injection e2 with e2 e3 _
      subst e2 e3
      have cs : wr.cell? ⟨g, off + j * 17 + 11, none⟩ = some (.string ⟨List.toArray q.sum⟩) := hr2 11 _ rfl
      obtain ⟨gz, oz, e4, hgz, cz⟩ := (HZ.out.modK mr (by simpa using hkB)).is.at' i hlt
      subst e4
      rw [hj] at cz
      have HT2 : Hid (skE E (LK.take (i + 1)) = skE E (LK.take i) ++ [q.sum]) := Lib.hid (by rw [skE_take E LK i hlt, hj]; simp [List.getD_eq_getElem?_getD, hq])
      have HSL : Hid ((skE E (LK.take i)).length = i) := Lib.hid (by simp [skE]; omega)
      have ck := HH.out.cell 10
      simp only [hcs, List.getElem?_toArray, List.getElem?_cons_zero, List.getElem?_cons_succ] at ck
      have q1 : decide ((i : Int) < (LK.length : Int)) = true := by simp; omega
      have q2 : (i : Int) < (LK.length : Int) := by omega
      have q3 : (j : Int) < (m : Int) + 1 := by omega
      have hww := mr.size
      generalize q.sum = qs at *
      rw [e6] at ck
      have hkwr := HH.out.lt
      clear hq hr2 hj
      go_wp2_with fail
      go_region_law (refine step_appS rfl (.tmp 120) (.tmp 129) rfl w15.heap.size _ (skE E (LK.take i)) rfl (e6 ▸ (HS.out.alloc _).drew) wr.heap.size 0 1 1 [qs] rfl rfl (ssrc1 wr qs 9).drew (by rw [HSL.out]; omega) (by simp; omega) ?_; rintro v' w2 hS2 hb2; have B2 := (HH.out.alloc (.cells #[.string ⟨qs.toArray⟩] 9)).drew.of_block (hb2.block _ hkl) hb2.size; have x1 := B2.cell 10; have x2 := B2.froz 10; have x3 := B2.lt; simp only [hcs, List.getElem?_toArray, List.getElem?_cons_zero, List.getElem?_cons_succ] at x1; have hB2 := Lib.hid B2; clear B2; obtain ⟨a5, c5, rfl⟩ := hS2.form)
      all_goals
       have hS3 : SRow w2 w15.heap.size (.slice a5 ((skE E (LK.take i)).length + 1) c5) (skE E (LK.take (i + 1))) := by rw [HT2.out]; simpa only [List.length_append, List.length_cons, List.length_nil] using hS2
       have mF : Mod [kH] w2 (w2.setCell ⟨kH, 10, none⟩ (.slice a5 ((skE E (LK.take i)).length + 1) c5)) := (Mod.refl _ _).setCell (.inl (by simp)) _
       have mA : Mod [kH] w15 w2 := ((mr.alloc (.cells #[.string ⟨qs.toArray⟩] 9)).drew).bel hb2 (Nat.le_refl _)
       have HS4 := Lib.hid (hS3.modK mF (by simpa using hkl))
       have HB4 := Lib.hid (hB2.out.set 10 (.slice a5 ((skE E (LK.take i)).length + 1) c5))
       have hmF := mA.trans mF
       clear hS2 hS3 mF mA hb2 x1 x2 x3 hB2 cz cs ck
       go_wp2_with fail
       exact ⟨⟨i + 1, .slice a5 ((skE E (LK.take i)).length + 1) c5, by go_num, by omega, HB4, HS4, hmF⟩, by simp [intOf]; omega⟩
     ·have e1 : i = LK.length := by omega
      subst e1
      have q1 : decide ((LK.length : Int) < (LK.length : Int)) = false := by simp
      have hS2 := HS.out
      rw [List.take_length, e6] at hS2
      have hb15 := HB15.out
      have hsD := hbD.size
      have hs15 := hb15.size
      have NP := HNP.out.mod mr (by simp; omega)
      have ND := HND.out.mod mr (by simp; omega)
      have hbr : Below WD.heap.size WD wr := Below.mod hb15 mr hb15.size (by simpa using hkD)
      have NR := HR7.out.belowB hbr (by omega)
      have NH := HH.out
      rw [e6] at NH
      have HSS := Lib.hid hS2.ss
      have HSR := Lib.hid hS2
      have qd := fun (W : World) (hb : Below wr.heap.size wr W) => rhd_digest ((m : Int) + 1) 1 ((m : Int) + 1) false X RI [] T D D (skE E LK) sa' sc' W (by have := HSS.out.keep hb; rw [List.take_length] at this; exact this)
      generalize hDG : dgH ⟨(m : Int) + 1, 1, (m : Int) + 1, false, X, RI, [], T, D, D, skE E LK⟩ = DG at *
      have HDG := Lib.hid hDG
      have hww := Below.trans hbD (hbr.mono hsD)
      have hsr := hbr.size
      have HWW := Lib.hid hww
      rw [List.take_length] at NH HSS HSR
      clear hDG HH HS hS2 e6 mr hb15 hbr
      go_wp2_with fail
      refine wpH_startM [w.heap.size] (by kernel_rfl) (fun hS => ?_)
      refine wpH_row row_head 0 (oi := ⟨some 132,.load 48 (.tmp 11),48,"ref.go:74",#[],none⟩) rfl (by kernel_rfl) (by kernel_rfl) (by kernel_rfl) (by rfl) hS (vs := hcs ⟨(m : Int) + 1, 1, (m : Int) + 1, false, X, RI, [], T, D, D, skE E LK⟩ (.slice sa' (skE E LK).length sc')) (fun _ _ _ h => h) (.tmp 11) rfl rfl (rfl) (fun w' hb2 => NH.mod hb2 (by simp; omega)) ?_
      try simp only [pna, pnb, pnc, pnd, pne]
      refine wpH_row row_head 1 (oi := ⟨some 133,.load 48 (.tmp 11),48,"ref.go:74",#[],none⟩) rfl (by kernel_rfl) (by kernel_rfl) (by kernel_rfl) (by rfl) hS (vs := hcs ⟨(m : Int) + 1, 1, (m : Int) + 1, false, X, RI, [], T, D, D, skE E LK⟩ (.slice sa' (skE E LK).length sc')) (fun _ _ _ h => h) (.tmp 11) rfl rfl (rfl) (fun w' hb2 => NH.mod hb2 (by simp; omega)) ?_
      try simp only [pna, pnb, pnc, pnd, pne]
      (refine hP 3 ?_ ⟨some 135, .move (.tmp 2), 49, "", #[], none⟩ hS ?_ ?_; rotate_left; focus (intro w; go_simp; try with_reducible rfl))
      try simp only [pna, pnb, pnc, pnd, pne]
      (refine hP 4 ?_ ⟨some 136, .fieldAddr 177 (.tmp 9) 1, 0, "", #[], none⟩ hS ?_ ?_; rotate_left; focus (intro w; go_simp; try with_reducible rfl))
      try simp only [pna, pnb, pnc, pnd, pne]
      refine wpH_load 5 (.slice none 0 0) (oi := ⟨some 137,.load 50 (.tmp 136),50,"ref.go:74",#[⟨4,.data⟩],none⟩) rfl (by kernel_rfl) (by kernel_rfl) (by kernel_rfl) (by rfl) hS (fun _ _ _ h => h) (fun w' hb2 => (by have c := (ND.mod hb2 (by simp; omega)).cell 1; go_simp; try rfl)) ?_
      try simp only [pna, pnb, pnc, pnd, pne]
      (refine hP 6 ?_ ⟨some 138, .fieldAddr 177 (.tmp 9) 0, 0, "", #[], none⟩ hS ?_ ?_; rotate_left; focus (intro w; go_simp; try with_reducible rfl))
      try simp only [pna, pnb, pnc, pnd, pne]
      refine wpH_load 7 (.slice ia l.length ic) (oi := ⟨some 139,.load 38 (.tmp 138),38,"ref.go:74",#[⟨6,.data⟩],none⟩) rfl (by kernel_rfl) (by kernel_rfl) (by kernel_rfl) (by rfl) hS (fun _ _ _ h => h) (fun w' hb2 => (by have c := (ND.mod hb2 (by simp; omega)).cell 0; go_simp; try rfl)) ?_
      try simp only [pna, pnb, pnc, pnd, pne]
      (refine hP 8 ?_ ⟨some 140, .fieldAddr 52 (.tmp 8) 6, 0, "", #[], none⟩ hS ?_ ?_; rotate_left; focus (intro w; go_simp; try with_reducible rfl))
      try simp only [pna, pnb, pnc, pnd, pne]
      refine wpH_load 9 (.slice na S2.length nc) (oi := ⟨some 141,.load 23 (.tmp 140),23,"ref.go:74",#[⟨8,.data⟩],none⟩) rfl (by kernel_rfl) (by kernel_rfl) (by kernel_rfl) (by rfl) hS (fun _ _ _ h => h) (fun w' hb2 => (by have c := (NP.mod hb2 (by simp)).cell 16; simp only [ecs, List.getElem?_toArray, List.getElem?_cons_zero, List.getElem?_cons_succ] at c; go_simp; try rfl)) ?_
      try simp only [pna, pnb, pnc, pnd, pne]
      (refine hP 10 ?_ ⟨some 142, .move (.tmp 12), 23, "", #[], none⟩ hS ?_ ?_; rotate_left; focus (intro w; go_simp; try with_reducible rfl))
      try simp only [pna, pnb, pnc, pnd, pne]
      refine wpH_call 2 (oi := ⟨some 134,.call { callee := .value (.func 33), args := #[.tmp 133], argTypes := #[48] },9,"ref.go:74",#[⟨1,.data⟩],none⟩) rfl (by kernel_rfl) (by rfl) (qd _ (Below.refl _ _).drew) ?_ ?_
      ·(go_simp; try rfl)
      rintro e w' ⟨rfl, hbx⟩
      refine ⟨_, rfl, hS.trans (Mod.of_below hbx), ?_⟩
      replace hS := hS.trans (Mod.of_below hbx)
      try simp only [pna, pnb, pnc, pnd, pne]
      refine wpH_load 11 (.agg (ecs ⟨⟨(m : Int) + 1, 1, (m : Int) + 1, false, X, RI, [], T, D, D, skE E LK⟩, DG, l, S2, S2⟩ (.slice sa' (skE E LK).length sc') (.slice ia l.length ic) (.slice na S2.length nc) (.slice na S2.length nc)).toArray) (oi := ⟨some 143,.build 52 #[(0, .tmp 132), (1, .tmp 134), (2, .tmp 135), (3, .tmp 137), (4, .tmp 139), (5, .tmp 141), (6, .tmp 142)],52,"ref.go:74",#[⟨0,.data⟩, ⟨2,.data⟩, ⟨3,.data⟩, ⟨5,.data⟩, ⟨7,.data⟩, ⟨9,.data⟩, ⟨10,.data⟩],none⟩) rfl (by kernel_rfl) (by kernel_rfl) (by kernel_rfl) (by rfl) hS (fun _ _ _ h => h) (fun w' hb2 => (by kernel_rfl)) ?_
      try simp only [pna, pnb, pnc, pnd, pne]
      refine wpH_op 12 (oi := ⟨none,.store 52 (.tmp 6) (.tmp 143),0,"ref.go:74",#[⟨11,.data⟩, ⟨2,.chain⟩, ⟨0,.phase⟩, ⟨1,.phase⟩, ⟨2,.phase⟩, ⟨3,.phase⟩, ⟨4,.phase⟩, ⟨5,.phase⟩, ⟨6,.phase⟩, ⟨7,.phase⟩, ⟨8,.phase⟩, ⟨9,.phase⟩, ⟨10,.phase⟩, ⟨11,.phase⟩],none⟩) rfl (by kernel_rfl) (by rfl) ?_
      refine wp_rowS row_ent (.tmp 6) (.tmp 143) rfl rfl (vs := ecs ⟨⟨(m : Int) + 1, 1, (m : Int) + 1, false, X, RI, [], T, D, D, skE E LK⟩, DG, l, S2, S2⟩ (.slice sa' (skE E LK).length sc') (.slice ia l.length ic) (.slice na S2.length nc) (.slice na S2.length nc)) rfl rfl (ecs_one _ _ _ _ _ _ _ _ _ _ _ _ _) (us := ecs entZ (.slice none 0 0) (.slice none 0 0) (.slice none 0 0) (.slice none 0 0)) rfl (NR.drew.keep hbx) ?_
      intro w17 N17 m17
      refine ⟨hS.trans m17, ?_⟩
      replace hS := hS.trans m17
      try simp only [pna, pnb, pnc, pnd, pne]
      (refine hP 13 ?_ ⟨some 7, .assign (.const (.int .i64 0)), 34, "", #[], none⟩ hS ?_ ?_; rotate_left; focus (intro w; go_simp; try with_reducible rfl))
      try simp only [pna, pnb, pnc, pnd, pne]
      refine wpAnyH_done (by kernel_rfl) ?_ _
      go_wp2_with fail
      have hfin := Below.mod HWW.out hS HWW.out.size (by simp)
      have hD2 : D = dgM S2 := hD.symm
      refine bodyPost_ret (results_cell_tmp2 rfl _ _ _ _ rfl (row_loadVar row_ent _ rfl N17)) rfl ?_
      refine ⟨⟨⟨⟨(m : Int) + 1, 1, (m : Int) + 1, false, X, RI, [], T, D, D, skE E LK⟩, DG, l, S2, S2⟩, .slice sa' (skE E LK).length sc', .slice ia l.length ic, .slice na S2.length nc, .slice na S2.length nc⟩, rfl, ⟨?_, HIL.out.keep hfin, HNS.out.keep hfin, HNS.out.keep hfin⟩, ⟨rfl, rfl, rfl, rfl, hD2, hD2, HDG.out.symm, HGR.out, rfl, rfl⟩, hfin⟩
      exact (HSR.out.modK hS (by simp; omega)).ss
end Go.Proofs.YthkpmlfaddlieaaGreatDoor
