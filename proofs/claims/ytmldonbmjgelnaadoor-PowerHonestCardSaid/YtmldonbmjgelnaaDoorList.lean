/- Walks of layer 2: lists. -/
import Derived.Test.YtmldonbmjgelnaaDoorListP
import Derived.Test.YtmldonbmjgelnaaDoorTexts
import Derived.Test.YtmldonbmjgelnaaDoorMembers
import Derived.Test.YtmldonbmjgelnaaDoorReader
import Derived.Test.YtmldonbmjgelnaaDoorNum
import Derived.Test.YtmldonbmjgelnaaDoorBs
import Derived.Lib.ConvBytes
import Derived.Deep.AppendSrc
set_option linter.unusedSimpArgs false
set_option linter.unusedVariables false
namespace Go.Proofs.YtmldonbmjgelnaaDoor
open Go.RowKit Pl

/-- v is a slice of a block from base on, with these bytes; none of its cells is frozen. -/
def BOwn (w : World) (base : Nat) (v : Value) (l : Bs) : Prop :=
  ∃ g cap, v = .slice (some ⟨g, 0, none⟩) l.length cap ∧ base ≤ g ∧ g < w.heap.size ∧ l.length ≤ cap ∧ cap ≤ maxLen ∧
    (∀ i, i < l.length → w.cell? ⟨g, i, none⟩ = some (.int .u8 ((l.getD i 0).toNat : Int))) ∧ ∀ i, i < cap → (w.cell? ⟨g, i, none⟩).isSome = true ∧ w.frozen? ⟨g, i, none⟩ = false
theorem BOwn.keep {W w : World} {base : Nat} {v : Value} {l : Bs} (h : BOwn W base v l) (hb : Below W.heap.size W w) : BOwn w base v l := by
  obtain ⟨g, cap, h1, h2, h3, h4, h5, h6, h7⟩ := h
  exact ⟨g, cap, h1, h2, Nat.lt_of_lt_of_le h3 hb.size, h4, h5, fun i hi => (hb.cell (p := ⟨g, i, none⟩) h3).trans (h6 i hi), fun i hi => ⟨by rw [hb.cell (p := ⟨g, i, none⟩) h3]; exact (h7 i hi).1, (hb.frozen (p := ⟨g, i, none⟩) h3).trans (h7 i hi).2⟩⟩
theorem BOwn.conv {w : World} {base : Nat} {v : Value} {l : Bs} (h : BOwn w base v l) : (convert 71 9 v).run Tryd.prog w = .ok (.string ⟨List.toArray (l)⟩) w := by
  obtain ⟨g, cap, rfl, h2, h3, h4, h5, h6, h7⟩ := h
  exact conv_str 71 5 9 Tryd.underlying71 Tryd.underlying5 Tryd.underlying9 g 0 l.length cap l rfl (fun i hi => by simpa using h6 i hi)
theorem bs_size (s : Bs) : (⟨s.toArray⟩ : ByteArray).size = s.length := by simp [ByteArray.size]
theorem bcells_at (s : Bs) (j : Nat) (hj : j < s.length) : (byteCells ⟨s.toArray⟩)[j]? = some (.int .u8 ((s.getD j 0).toNat : Int)) := by
  simp [byteCells, List.getD, List.getElem?_eq_getElem hj]

/-- '[]byte(s)'. -/
theorem run_conv_own (w : World) (s : Bs) (base : Nat) (hbase : base ≤ w.heap.size) (hs : s.length ≤ maxLen) :
    ∃ v w', (convert 9 71 (.string ⟨List.toArray (s)⟩)).run Tryd.prog w = .ok v w' ∧ BOwn w' base v s ∧ Below base w w' := by
  have hr := Lib.run_convert_string_bytes (P := Tryd.prog) w 9 71 5 ⟨s.toArray⟩ Tryd.underlying9 Tryd.underlying71 Tryd.underlying5
  have hz := bs_size s
  have hge := grownCap_ge w s.length 0 5
  have hle := grownCap_le_maxLen w s.length 0 5 hs
  have hcs : (Lib.bytesCells w 5 ⟨s.toArray⟩).size = grownCap w s.length 0 5 := by
    simp only [Lib.bytesCells, hz, Array.size_append, Array.size_map, Array.size_replicate, List.size_toArray]
    omega
  rw [hz] at hr
  refine ⟨_, _, hr, ⟨w.heap.size, _, rfl, hbase, by rw [Lib.bytesWorld_size]; omega, hge, hle, fun i hi => ?_, fun i hi => ?_⟩, ⟨rfl, rfl, rfl, by rw [Lib.bytesWorld_size]; omega, fun k hk => Lib.bytesWorld_at_old w _ _ k (by omega)⟩⟩
  · have h := Lib.bytesWorld_cell w 5 ⟨s.toArray⟩ i (by rw [hz]; exact hi)
    exact h
  · have hat := Lib.bytesWorld_at_new w 5 ⟨s.toArray⟩
    refine ⟨?_, ?_⟩
    · simp only [World.cell?, hat]
      simp [hcs, hi]
    · simp only [World.frozen?, hat, hcs]
      simp; omega

/-- append(v, s...) of a text's bytes. -/
theorem run_app_own (w : World) (base : Nat) (v : Value) (l news : Bs) (ty : TypeId) (h : BOwn w base v l) (hbase : base ≤ w.heap.size) (hlen : l.length + news.length ≤ 140737488355328) :
    ∃ v' w', (Builtin.append_ #[71, 9] ty #[v, .string ⟨List.toArray (news)⟩]).run Tryd.prog w = .ok v' w' ∧ BOwn w' base v' (l ++ news) ∧ Below base w w' := by
  obtain ⟨i0, hi, hz0, hz1, hz2⟩ := info_parts infoU8
  obtain ⟨g, cap, rfl, h2, h3, h4, h5, h6, h7⟩ := h
  have hz := bs_size news
  have hsrc := Src.ofString (P := Tryd.prog) w (tx := 9) Tryd.underlying9 ⟨news.toArray⟩
  rw [hz, ← hz1] at hsrc
  have hnl : (byteCells ⟨news.toArray⟩).length = news.length := by rw [byteCells_length, hz]
  by_cases hroom : l.length + news.length ≤ cap
  · have hth : ∀ j, j < (byteCells ⟨news.toArray⟩).length → (w.cell? ⟨g, l.length + j, none⟩).isSome = true := fun j hj => (h7 _ (by omega)).1
    have hr := run_append_room_src (P := Tryd.prog) w 71 9 ty 5 i0 Tryd.underlying71 hi g 0 l.length cap _ news.length _ hsrc hroom (fun j hj => by rw [hz1, Nat.mul_one, Nat.zero_add]; exact hth j hj) (fun j hj => by rw [hz1, Nat.mul_one, Nat.zero_add]; exact (h7 _ (by omega)).2)
    rw [hz1, Nat.mul_one, Nat.zero_add] at hr
    refine ⟨_, _, hr, ⟨g, cap, by rw [List.length_append], h2, ?_, by rw [List.length_append]; exact hroom, h5, fun i hi => ?_, fun i hi => ⟨?_, ?_⟩⟩, ?_⟩
    · exact Nat.lt_of_lt_of_le h3 (Mod.setCellsL g _ _ w).size
    · by_cases hil : i < l.length
      · rw [World.cell?_setCells_out g _ _ w _ (fun _ _ => .inl (by show i < l.length; omega)), h6 i hil]
        simp [List.getD, List.getElem?_append_left hil]
      · obtain ⟨j, rfl⟩ : ∃ j, i = l.length + j := ⟨i - l.length, by omega⟩
        have hj : j < news.length := by simp at hi; omega
        rw [World.cell?_setCells_in g _ _ w hth j (by omega), ← List.getElem?_eq_getElem, bcells_at news j hj]
        simp [List.getD, List.getElem?_append_right]
    · by_cases hin : l.length ≤ i ∧ i < l.length + news.length
      · obtain ⟨j, rfl⟩ : ∃ j, i = l.length + j := ⟨i - l.length, by omega⟩
        rw [World.cell?_setCells_in g _ _ w hth j (by omega)]
        rfl
      · rw [World.cell?_setCells_out g _ _ w _ (fun _ _ => (show i < l.length ∨ l.length + _ ≤ i by omega))]
        exact (h7 i hi).1
    · rw [World.frozen?_setCells]
      exact (h7 i hi).2
    · exact Below.mod (Below.refl _ _) (Mod.setCellsL g _ _ w) hbase (by simpa using h2)
  · have hge := grownCap_ge w (l.length + news.length) cap 5
    have hle := grownCap_le_maxLen w (l.length + news.length) cap 5 (by unfold maxLen; omega)
    have hr := run_append_grow_src (P := Tryd.prog) w 71 9 ty 5 i0 (.int .u8 0) Tryd.underlying71 hi hz0 (some ⟨g, 0, none⟩) l.length cap (bv l) (by
        rw [hz1]
        refine run_firstCells_some w.drew 1 l.length ⟨g, 0, none⟩ l.length cap (bv l) (by rw [bv_len]; omega) (fun j u hu => ?_)
        have hj : j < l.length := by
          have := (List.getElem?_eq_some_iff.1 hu).1
          rw [bv_len] at this; exact this
        rw [Addr.add_lit, Nat.zero_add]
        refine (h6 j hj).trans ?_
        rw [← hu]
        simp [bv, List.getD, List.getElem?_eq_getElem hj]) _ news.length _ hsrc (by omega) (by omega) (by
        rw [hz2]
        have := nextslicecap_le (show cap < l.length + news.length by omega)
        omega)
    refine ⟨_, _, hr, ⟨w.heap.size, _, by rw [List.length_append], hbase, by simp, by rw [List.length_append]; exact hge, hle, fun i hi => ?_, fun i hi => ⟨?_, ?_⟩⟩, ?_⟩
    · have hx : ((bv l ++ byteCells ⟨news.toArray⟩).toArray ++ Builtin.zeroCells (Value.int .u8 0).cells (grownCap w (l.length + news.length) cap 5 - (l.length + news.length)))[i]? = some (.int .u8 (((l ++ news).getD i 0).toNat : Int)) := by
        rw [List.length_append] at hi
        rw [Array.getElem?_append_left (by simp [bv_len, hnl]; omega)]
        simp only [List.getElem?_toArray]
        by_cases hil : i < l.length
        · rw [List.getElem?_append_left (by rw [bv_len]; exact hil)]
          simp [bv, List.getD, List.getElem?_eq_getElem hil, List.getElem?_append_left hil]
        · obtain ⟨j, rfl⟩ : ∃ j, i = l.length + j := ⟨i - l.length, by omega⟩
          rw [List.getElem?_append_right (by rw [bv_len]; omega), bv_len, Nat.add_sub_cancel_left, bcells_at news j (by omega)]
          simp [List.getD, List.getElem?_append_right]
      exact (Blk.new w.drew _ 5).cell i |>.trans hx
    · have hx : i < ((bv l ++ byteCells ⟨news.toArray⟩).toArray ++ Builtin.zeroCells (Value.int .u8 0).cells (grownCap w (l.length + news.length) cap 5 - (l.length + news.length))).size := by
        simp [bv_len, hnl, size_zeroCells, Value.cells]
        omega
      show ((w.drew.alloc _).cell? ⟨w.drew.heap.size, i, none⟩).isSome = true
      rw [(Blk.new w.drew _ 5).cell i, Array.getElem?_eq_getElem hx]
      rfl
    · exact (Blk.new w.drew _ 5).froz i
    · exact (Below.refl _ _).drew.alloc hbase _

section
variable {ops : Array Oper} {o : Oper} {rest : List Oper} {a : Act} {w : World} {Q : Exit → Act → World → Prop}
theorem wpList_convO (hgd : o.guard = none) (x : Operand) (ho : o.op = .convert 9 71 x) (s : Bs) (hx : a.eval x = .string ⟨List.toArray (s)⟩) (base : Nat) (hbase : base ≤ w.heap.size) (hs : s.length ≤ maxLen)
    (h : ∀ v' w', BOwn w' base v' s → Below base w w' → wpList Tryd.prog ops Q rest (a.put o.dst v') w') : wpList Tryd.prog ops Q (o :: rest) a w := by
  refine wpList_plain hgd fun K hK => ?_
  obtain ⟨v, w', hr, h2, h3⟩ := run_conv_own w s base hbase hs
  unfold Oper.wp execOp
  simp only [ho, hx, Sem.run_bind, Sem.run_pure, Result.andThen_ok, hr]
  exact hK _ _ (h v w' h2 h3)
theorem wpList_appO (hgd : o.guard = none) (s x : Operand)
    (ho : o.op = .call { callee := .builtin .append, args := #[s, x], argTypes := #[71, 9] })
    (base : Nat) (v : Value) (l : Bs) (hs : a.eval s = v) (hown : BOwn w base v l) (news : Bs) (hx : a.eval x = .string ⟨List.toArray (news)⟩)
    (hlen : l.length + news.length ≤ 140737488355328) (hbase : base ≤ w.heap.size)
    (h : ∀ v' w', BOwn w' base v' (l ++ news) → Below base w w' → wpList Tryd.prog ops Q rest (a.put o.dst v') w') : wpList Tryd.prog ops Q (o :: rest) a w := by
  refine wpList_plain hgd fun K hK => ?_
  obtain ⟨v', w', hr, h2, h3⟩ := run_app_own w base v l news o.type hown hbase hlen
  unfold Oper.wp execOp
  simp only [ho, resolve, invoke, builtin, Sem.run_bind, Sem.run_pure, Result.andThen_ok, List.map_toArray, List.map_cons, List.map_nil, hs, hx, hr]
  exact hK _ _ (h v' w' h2 h3)
end

set_option maxRecDepth 100000 in
set_option maxHeartbeats 400000 in
theorem clist_any (v : Value) (l : List Bs) (w : World) (hn : l.length ≤ 1000) (hl : ∀ i, i < l.length → (l.getD i []).length ≤ 1000000) (hv : SS w v l) :
    Calls Tryd.prog 84 #[v] w fun e w' => e = .returned (.string ⟨List.toArray (encS l)⟩) ∧ Below w.heap.size w w' := by
  generalize hr : encS l = r
  have HR := Lib.hid hr
  clear hr
  obtain ⟨a, c, rfl⟩ := hv.form
  have HV := Lib.hid hv
  have HL := Lib.hid hl
  have HB := Lib.hid (listB_len l 1000000 hl)
  clear hv hl
  go_enter Tryd.func84, Tryd.ntmps84
  go_wp2_with fail
  refine (cnum_any l.length (by omega) _).mono ?_
  rintro e w1 ⟨rfl, hb⟩
  have hn9 := num_len l.length
  have hws := hb.size
  go_wp2_with (first
    | (refine wpList_convO rfl (.tmp 8) rfl _ rfl w.heap.size hws (by unfold maxLen; omega) ?_; rintro v2 w2 hO hb2)
    | fail)
  have hb3 := hb.trans hb2
  clear hb hb2 hws
  go_wp2_with fail
  go_loopw [3, 12] (fun s3 s12 wr => ∃ i : Nat, i ≤ l.length ∧ s12 = .int .i64 i ∧ BOwn wr w.heap.size s3 (num l.length ++ listB (l.take i)) ∧ Below w.heap.size w wr) (fun _ s12 _ => l.length - (intOf s12).toNat)
  case atStart => exact ⟨0, by omega, rfl, by simpa [listB] using hO, hb3⟩
  case round =>
    obtain ⟨i, hi, rfl, hO, hb⟩ := hrel
    obtain ⟨wq, h⟩ := Below.nm hb
    subst h
    by_cases hlt : i < l.length
    · obtain ⟨g, off, rfl, c1⟩ := (HV.out.keep hb).at i hlt
      have o1 := HL.out i hlt
      have hB := HB.out i (by omega)
      have hnx : num l.length ++ listB (l.take (i + 1)) = num l.length ++ listB (l.take i) ++ num (l.getD i []).length ++ l.getD i [] := by
        rw [takeS l i hlt, listB_app, text]
        simp only [List.append_assoc]
      have hs9 : (num l.length ++ listB (l.take i)).length ≤ 1100000000 := by rw [List.length_append]; have : i ≤ 1000 := (by omega); omega
      generalize hx : l.getD i [] = x at *
      generalize num l.length ++ listB (l.take i) = s at *
      have hx9 := num_len x.length
      clear hx hB HB
      go_wp2_with fail
      refine (cnum_any x.length (by omega) _).mono ?_
      rintro e w4 ⟨rfl, hb4⟩
      have hO4 := hO.keep hb4
      have hb5 := hb.trans (hb4.mono hb.size)
      have hz5 := hb5.size
      go_wp2_with (first
        | (at_builtin; refine wpList_appO rfl (.tmp 16) (.tmp 19) rfl w.heap.size _ s rfl hO4 _ rfl (by omega) hz5 ?_; rintro v6 w6 hO6 hb6; have hz6 := hb6.size)
        | (at_builtin; refine wpList_appO rfl (.tmp 21) (.tmp 22) rfl w.heap.size _ _ rfl hO6 _ rfl (by rw [List.length_append]; omega) (by omega) ?_; rintro v7 w7 hO7 hb7)
        | fail)
      exact ⟨⟨i + 1, by omega, by go_num, by rw [hnx]; exact hO7, (hb5.trans hb6).trans hb7⟩, by simp [intOf]; omega⟩
    · obtain rfl : i = l.length := by omega
      have hc := hO.conv
      rw [List.take_length] at hc
      go_wp2_with fail
      all_goals (go_ret; refine ⟨?_, hb⟩; rw [← HR.out]; rfl)
end Go.Proofs.YtmldonbmjgelnaaDoor
