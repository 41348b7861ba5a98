/- Bs, List, ShaP, Sha. -/
import Derived.Lib.AppendStr
import Derived.Laws.AppendOwnNone
import Derived.Lib.ConvBytes
import Derived.Deep.AppendSrc
import Derived.Test.YtdddcncjmnekcaaGreatDoorChecked
import Derived.Deep.MidRow
import Derived.Test.YtdddcncjmnekcaaGreatDoorMg2
import Derived.Test.YtdddcncjmnekcaaGreatDoorMg3
import Derived.Test.YtdddcncjmnekcaaGreatDoorMg4
set_option linter.unnecessarySimpa false

/- Slices of bytes that are read: wherever they lie, nil too; appended to own ones. -/
set_option linter.unusedSimpArgs false
set_option linter.unusedVariables false
namespace Go.Proofs.YtdddcncjmnekcaaGreatDoor
open Go.RowKit

/-- v reads as these bytes. -/
def BS (w : World) (v : Value) (l : List UInt8) : Prop :=
  (v = .slice none 0 0 ∧ l = []) ∨ ∃ g off cap, v = .slice (some ⟨g, off, none⟩) l.length cap ∧ l.length ≤ cap ∧ cap ≤ maxLen ∧ g < w.heap.size ∧ BSrc w g off l
theorem BRow.bs {w : World} {base : Nat} {v : Value} {l : List UInt8} (h : BRow w base v l) : BS w v l := by
  rcases h.cells with h | ⟨g, cap, h1, h2, h3, h4, h5, h6, h7⟩
  · exact .inl h
  · exact .inr ⟨g, 0, cap, h1, h4, h5, h3, fun i hi => by rw [Nat.zero_add]; exact h6 i hi⟩
theorem BS.keep {W w : World} {v : Value} {l : List UInt8} (h : BS W v l) (hb : Below W.heap.size W w) : BS w v l := by
  rcases h with h | ⟨g, off, cap, h1, h2, h3, h4, h5⟩
  · exact .inl h
  · exact .inr ⟨g, off, cap, h1, h2, h3, Nat.lt_of_lt_of_le h4 hb.size, fun i hi => (hb.cell (p := ⟨g, off + i, none⟩) h4).trans (h5 i hi)⟩
theorem BRow.mono {w : World} {b b' : Nat} {v : Value} {l : List UInt8} (h : BRow w b v l) (hb : b' ≤ b) : BRow w b' v l := by
  refine ⟨h.1, h.2.imp id ?_⟩
  rintro ⟨g, cap, cur, hv, h1, h2⟩
  exact ⟨g, cap, cur, hv, Nat.le_trans hb h1, h2⟩
theorem BRow.keep {W w : World} {b : Nat} {v : Value} {l : List UInt8} (h : BRow W b v l) (hb : Below W.heap.size W w) : BRow w b v l := by
  refine h.kept (fun k hk => hb.block k ?_)
  rcases h.cells with ⟨rfl, _⟩ | ⟨g, cap, rfl, _, hg, _⟩
  · cases hk
  · cases hk; exact hg
/-- A slice of bytes, cut behind its first k. -/
theorem BS.len {w : World} {v : Value} {l : List UInt8} (h : BS w v l) : ∃ a c, v = .slice a l.length c := by
  rcases h with ⟨rfl, rfl⟩ | ⟨g, off, cap, rfl, _⟩
  · exact ⟨none, 0, rfl⟩
  · exact ⟨_, cap, rfl⟩

section
variable {ops : Array Oper} {o : Oper} {a : Act} {w : World} {Q : Exit → Act → World → Prop}
/-- append(v, x...) of bytes, v own, x any. -/
theorem wp_appBS {K : Act → World → Prop} (s x : Operand)
    (ho : o.op = .call { callee := .builtin .append, args := #[s, x], argTypes := #[53, 53] })
    (base : Nat) (v : Value) (l : List UInt8) (hs : a.eval s = v) (hown : BRow w base v l)
    (u : Value) (news : List UInt8) (hx : a.eval x = u) (hsrc : BS w u news)
    (hlen : l.length + news.length ≤ 140737488355328) (hbase : base ≤ w.heap.size)
    (h : ∀ v' w', BRow w' base v' (l ++ news) → w.grownBy w' v.ownBlock → K (a.put o.dst v') w') : o.wp Tryz.prog a w K Q := by
  obtain ⟨i0, hi, hz0, hz1, hz2⟩ := info_parts infoU8
  rcases hsrc with ⟨rfl, rfl⟩ | ⟨g, off, cap, rfl, h1, h2, h3, h4⟩
  · obtain ⟨v', w', hr, h2, h3⟩ : ∃ v' w', (Builtin.append_ #[53, 53] o.type #[v, .slice none 0 0]).run Tryz.prog w = .ok v' w' ∧ BRow w' base v' l ∧ w.grownBy w' v.ownBlock := by
      rcases hown.cells with ⟨rfl, rfl⟩ | ⟨g, cap, rfl, q1, q2, q3, q4, q5, q6⟩
      · refine ⟨.slice none 0 0, w, ?_, BRow.nil _ _, ⟨rfl, rfl, rfl, Nat.le_refl _, fun _ _ _ => rfl⟩⟩
        simp [Builtin.append_, run_underlying Tryz.underlying53, sizeOf, typeInfo, hi, hz1, Builtin.lenOf, Builtin.firstCells]
      · refine ⟨.slice (some ⟨g, 0, none⟩) l.length cap, w, ?_, hown, ⟨rfl, rfl, rfl, Nat.le_refl _, fun _ _ _ => rfl⟩⟩
        simp [Builtin.append_, run_underlying Tryz.underlying53, sizeOf, typeInfo, hi, hz1, Builtin.lenOf, Builtin.firstCells, q3, storeCells]
    unfold Oper.wp execOp
    simp only [ho, resolve, invoke, builtin, Sem.run_bind, Sem.run_pure, Result.andThen_ok, List.map_toArray, List.map_cons, List.map_nil, hs, hx, hr]
    exact h v' w' (by rw [List.append_nil]; exact h2) h3
  · refine wp_append_own w s x 53 ho base 5 i0 (.int .u8 0) 1 1 Tryz.underlying53 hi hz0 hz1 hz2 rfl (by decide) v l.length (bv l) hs hown ⟨g, off, none⟩ news.length cap (bv news) hx (by rw [bv_len]; omega) (bsrc_news h4) (bone news)
      (by unfold maxLen; omega) (by omega) hbase (fun v' w' h2 h3 _ => h v' w' ?_ h3)
    unfold BRow
    rw [List.length_append, show bv (l ++ news) = bv l ++ bv news from by simp [bv]]
    exact h2
theorem wpList_appBS {rest : List Oper} (hgd : o.guard = none) (s x : Operand)
    (ho : o.op = .call { callee := .builtin .append, args := #[s, x], argTypes := #[53, 53] })
    (base : Nat) (v : Value) (l : List UInt8) (hs : a.eval s = v) (hown : BRow w base v l)
    (u : Value) (news : List UInt8) (hx : a.eval x = u) (hsrc : BS w u news)
    (hlen : l.length + news.length ≤ 140737488355328) (hbase : base ≤ w.heap.size)
    (h : ∀ v' w', BRow w' base v' (l ++ news) → w.grownBy w' v.ownBlock → wpList Tryz.prog ops Q rest (a.put o.dst v') w') : wpList Tryz.prog ops Q (o :: rest) a w :=
  wpList_plain hgd fun _ hK => wp_appBS s x ho base v l hs hown u news hx hsrc hlen hbase fun v' w' h2 h3 => hK _ _ (h v' w' h2 h3)
theorem step_appBS {K : Act → World → Prop} {E : Prop} (hgd : o.guard = none) (s x : Operand)
    (ho : o.op = .call { callee := .builtin .append, args := #[s, x], argTypes := #[53, 53] })
    (base : Nat) (v : Value) (l : List UInt8) (hs : a.eval s = v) (hown : BRow w base v l)
    (u : Value) (news : List UInt8) (hx : a.eval x = u) (hsrc : BS w u news)
    (hlen : l.length + news.length ≤ 140737488355328) (hbase : base ≤ w.heap.size)
    (h : ∀ v' w', BRow w' base v' (l ++ news) → w.grownBy w' v.ownBlock → K (a.put o.dst v') w') :
    if Region.wanted o (yielded ops a.tmps) = true then Oper.wp Tryz.prog o a w K Q else E := by
  have hw : Region.wanted o (yielded ops a.tmps) = true := by simp [Region.wanted, hgd]
  rw [if_pos hw]
  exact wp_appBS s x ho base v l hs hown u news hx hsrc hlen hbase h
/-- append(v, s...) of a text's bytes. -/
theorem wp_appBT {K : Act → World → Prop} (s x : Operand)
    (ho : o.op = .call { callee := .builtin .append, args := #[s, x], argTypes := #[53, 9] })
    (base : Nat) (v : Value) (l : List UInt8) (hs : a.eval s = v) (hown : BRow w base v l)
    (news : List UInt8) (hx : a.eval x = .string ⟨List.toArray (news)⟩)
    (hlen : l.length + news.length ≤ 140737488355328) (hbase : base ≤ w.heap.size)
    (h : ∀ v' w', BRow w' base v' (l ++ news) → w.grownBy w' v.ownBlock → K (a.put o.dst v') w') : o.wp Tryz.prog a w K Q := by
  obtain ⟨i0, hi, hz0, hz1, hz2⟩ := info_parts infoU8
  have hsz : (⟨news.toArray⟩ : ByteArray).size = news.length := by simp [ByteArray.size]
  obtain ⟨v', w', hr, h2, h3, _⟩ := Lib.run_append_own_string (P := Tryz.prog) w base 53 9 o.type 5 i0 Tryz.underlying53 Tryz.underlying9 hi hz0 hz1 hz2 v l.length (bv l) hown ⟨news.toArray⟩ (by rw [hsz]; unfold maxLen; omega) (by rw [hsz]; omega) hbase
  unfold Oper.wp execOp
  simp only [ho, resolve, invoke, builtin, Sem.run_bind, Sem.run_pure, Result.andThen_ok, List.map_toArray, List.map_cons, List.map_nil, hs, hx, hr]
  refine h v' w' ?_ h3
  unfold BRow
  rw [List.length_append, show bv (l ++ news) = bv l ++ bv news from by simp [bv]]
  rw [hsz] at h2
  exact h2
theorem wpList_appBT {rest : List Oper} (hgd : o.guard = none) (s x : Operand)
    (ho : o.op = .call { callee := .builtin .append, args := #[s, x], argTypes := #[53, 9] })
    (base : Nat) (v : Value) (l : List UInt8) (hs : a.eval s = v) (hown : BRow w base v l)
    (news : List UInt8) (hx : a.eval x = .string ⟨List.toArray (news)⟩)
    (hlen : l.length + news.length ≤ 140737488355328) (hbase : base ≤ w.heap.size)
    (h : ∀ v' w', BRow w' base v' (l ++ news) → w.grownBy w' v.ownBlock → wpList Tryz.prog ops Q rest (a.put o.dst v') w') : wpList Tryz.prog ops Q (o :: rest) a w :=
  wpList_plain hgd fun _ hK => wp_appBT s x ho base v l hs hown news hx hlen hbase fun v' w' h2 h3 => hK _ _ (h v' w' h2 h3)
theorem step_appBT {K : Act → World → Prop} {E : Prop} (hgd : o.guard = none) (s x : Operand)
    (ho : o.op = .call { callee := .builtin .append, args := #[s, x], argTypes := #[53, 9] })
    (base : Nat) (v : Value) (l : List UInt8) (hs : a.eval s = v) (hown : BRow w base v l)
    (news : List UInt8) (hx : a.eval x = .string ⟨List.toArray (news)⟩)
    (hlen : l.length + news.length ≤ 140737488355328) (hbase : base ≤ w.heap.size)
    (h : ∀ v' w', BRow w' base v' (l ++ news) → w.grownBy w' v.ownBlock → K (a.put o.dst v') w') :
    if Region.wanted o (yielded ops a.tmps) = true then Oper.wp Tryz.prog o a w K Q else E := by
  have hw : Region.wanted o (yielded ops a.tmps) = true := by simp [Region.wanted, hgd]
  rw [if_pos hw]
  exact wp_appBT s x ho base v l hs hown news hx hlen hbase h
end

theorem grown_nil {w w' : World} (hg : w.grownBy w' none) : Below w.heap.size w w' := grown_below hg (Nat.le_refl _) (fun k hk => by cases hk)
theorem grown_mod {w w' : World} {row : Option Nat} (hg : w.grownBy w' row) : Mod row.toList w w' :=
  ⟨hg.os, hg.tape, hg.output, hg.size, fun k hk hn => hg.block k hk (fun e => hn (by rw [← e]; simp))⟩
theorem ownBlock_lt {w : World} {base : Nat} {v : Value} {l : List UInt8} (h : BRow w base v l) : ∀ k, v.ownBlock = some k → base ≤ k ∧ k < w.heap.size := by
  intro k hk
  rcases h.cells with ⟨rfl, _⟩ | ⟨g, cap, rfl, hb, hg, _⟩
  · cases hk
  · cases hk; exact ⟨hb, hg⟩
end Go.Proofs.YtdddcncjmnekcaaGreatDoor

/- Walks of layer 2: lists. -/
set_option linter.unusedSimpArgs false
set_option linter.unusedVariables false
namespace Go.Proofs.YtdddcncjmnekcaaGreatDoor
open Go.RowKit Pl

/-- v is a slice of a block from base on, with these bytes; none of its cells is frozen. -/
def BOwn (w : World) (base : Nat) (v : Value) (l : Bs) : Prop :=
  ∃ g cap, v = .slice (some ⟨g, 0, none⟩) l.length cap ∧ base ≤ g ∧ g < w.heap.size ∧ l.length ≤ cap ∧ cap ≤ maxLen ∧
    (∀ i, i < l.length → w.cell? ⟨g, i, none⟩ = some (.int .u8 ((l.getD i 0).toNat : Int))) ∧ ∀ i, i < cap → (w.cell? ⟨g, i, none⟩).isSome = true ∧ w.frozen? ⟨g, i, none⟩ = false
theorem BOwn.keep {W w : World} {base : Nat} {v : Value} {l : Bs} (h : BOwn W base v l) (hb : Below W.heap.size W w) : BOwn w base v l := by
  obtain ⟨g, cap, h1, h2, h3, h4, h5, h6, h7⟩ := h
  exact ⟨g, cap, h1, h2, Nat.lt_of_lt_of_le h3 hb.size, h4, h5, fun i hi => (hb.cell (p := ⟨g, i, none⟩) h3).trans (h6 i hi), fun i hi => ⟨by rw [hb.cell (p := ⟨g, i, none⟩) h3]; exact (h7 i hi).1, (hb.frozen (p := ⟨g, i, none⟩) h3).trans (h7 i hi).2⟩⟩
theorem BOwn.conv {w : World} {base : Nat} {v : Value} {l : Bs} (h : BOwn w base v l) : (convert 53 9 v).run Tryz.prog w = .ok (.string ⟨List.toArray (l)⟩) w := by
  obtain ⟨g, cap, rfl, h2, h3, h4, h5, h6, h7⟩ := h
  exact conv_str 53 5 9 Tryz.underlying53 Tryz.underlying5 Tryz.underlying9 g 0 l.length cap l rfl (fun i hi => by simpa using h6 i hi)
theorem bs_size (s : Bs) : (⟨s.toArray⟩ : ByteArray).size = s.length := by simp [ByteArray.size]
theorem bcells_at (s : Bs) (j : Nat) (hj : j < s.length) : (byteCells ⟨s.toArray⟩)[j]? = some (.int .u8 ((s.getD j 0).toNat : Int)) := by
  simp [byteCells, List.getD, List.getElem?_eq_getElem hj]

/-- '[]byte(s)'. -/
theorem run_conv_own (w : World) (s : Bs) (base : Nat) (hbase : base ≤ w.heap.size) (hs : s.length ≤ maxLen) :
    ∃ v w', (convert 9 53 (.string ⟨List.toArray (s)⟩)).run Tryz.prog w = .ok v w' ∧ BOwn w' base v s ∧ Below base w w' := by
  have hr := Lib.run_convert_string_bytes (P := Tryz.prog) w 9 53 5 ⟨s.toArray⟩ Tryz.underlying9 Tryz.underlying53 Tryz.underlying5
  have hz := bs_size s
  have hge := grownCap_ge w s.length 0 5
  have hle := grownCap_le_maxLen w s.length 0 5 hs
  have hcs : (Lib.bytesCells w 5 ⟨s.toArray⟩).size = grownCap w s.length 0 5 := by
    simp only [Lib.bytesCells, hz, Array.size_append, Array.size_map, Array.size_replicate, List.size_toArray]
    omega
  rw [hz] at hr
  refine ⟨_, _, hr, ⟨w.heap.size, _, rfl, hbase, by rw [Lib.bytesWorld_size]; omega, hge, hle, fun i hi => ?_, fun i hi => ?_⟩, ⟨rfl, rfl, rfl, by rw [Lib.bytesWorld_size]; omega, fun k hk => Lib.bytesWorld_at_old w _ _ k (by omega)⟩⟩
  · have h := Lib.bytesWorld_cell w 5 ⟨s.toArray⟩ i (by rw [hz]; exact hi)
    exact h
  · have hat := Lib.bytesWorld_at_new w 5 ⟨s.toArray⟩
    refine ⟨?_, ?_⟩
    · simp only [World.cell?, hat]
      simp [hcs, hi]
    · simp only [World.frozen?, hat, hcs]
      simp; omega

/-- append(v, s...) of a text's bytes. -/
theorem run_app_own (w : World) (base : Nat) (v : Value) (l news : Bs) (ty : TypeId) (h : BOwn w base v l) (hbase : base ≤ w.heap.size) (hlen : l.length + news.length ≤ 140737488355328) :
    ∃ v' w', (Builtin.append_ #[53, 9] ty #[v, .string ⟨List.toArray (news)⟩]).run Tryz.prog w = .ok v' w' ∧ BOwn w' base v' (l ++ news) ∧ Below base w w' := by
  obtain ⟨i0, hi, hz0, hz1, hz2⟩ := info_parts infoU8
  obtain ⟨g, cap, rfl, h2, h3, h4, h5, h6, h7⟩ := h
  have hz := bs_size news
  have hsrc := Src.ofString (P := Tryz.prog) w (tx := 9) Tryz.underlying9 ⟨news.toArray⟩
  rw [hz, ← hz1] at hsrc
  have hnl : (byteCells ⟨news.toArray⟩).length = news.length := by rw [byteCells_length, hz]
  by_cases hroom : l.length + news.length ≤ cap
  · have hth : ∀ j, j < (byteCells ⟨news.toArray⟩).length → (w.cell? ⟨g, l.length + j, none⟩).isSome = true := fun j hj => (h7 _ (by omega)).1
    have hr := run_append_room_src (P := Tryz.prog) w 53 9 ty 5 i0 Tryz.underlying53 hi g 0 l.length cap _ news.length _ hsrc hroom (fun j hj => by rw [hz1, Nat.mul_one, Nat.zero_add]; exact hth j hj) (fun j hj => by rw [hz1, Nat.mul_one, Nat.zero_add]; exact (h7 _ (by omega)).2)
    rw [hz1, Nat.mul_one, Nat.zero_add] at hr
    refine ⟨_, _, hr, ⟨g, cap, by rw [List.length_append], h2, ?_, by rw [List.length_append]; exact hroom, h5, fun i hi => ?_, fun i hi => ⟨?_, ?_⟩⟩, ?_⟩
    · exact Nat.lt_of_lt_of_le h3 (Mod.setCellsL g _ _ w).size
    · by_cases hil : i < l.length
      · rw [World.cell?_setCells_out g _ _ w _ (fun _ _ => .inl (by show i < l.length; omega)), h6 i hil]
        simp [List.getD, List.getElem?_append_left hil]
      · obtain ⟨j, rfl⟩ : ∃ j, i = l.length + j := ⟨i - l.length, by omega⟩
        have hj : j < news.length := by simp at hi; omega
        rw [World.cell?_setCells_in g _ _ w hth j (by omega), ← List.getElem?_eq_getElem, bcells_at news j hj]
        simp [List.getD, List.getElem?_append_right]
    · by_cases hin : l.length ≤ i ∧ i < l.length + news.length
      · obtain ⟨j, rfl⟩ : ∃ j, i = l.length + j := ⟨i - l.length, by omega⟩
        rw [World.cell?_setCells_in g _ _ w hth j (by omega)]
        rfl
      · rw [World.cell?_setCells_out g _ _ w _ (fun _ _ => (show i < l.length ∨ l.length + _ ≤ i by omega))]
        exact (h7 i hi).1
    · rw [World.frozen?_setCells]
      exact (h7 i hi).2
    · exact Below.mod (Below.refl _ _) (Mod.setCellsL g _ _ w) hbase (by simpa using h2)
  · have hge := grownCap_ge w (l.length + news.length) cap 5
    have hle := grownCap_le_maxLen w (l.length + news.length) cap 5 (by unfold maxLen; omega)
    have hr := run_append_grow_src (P := Tryz.prog) w 53 9 ty 5 i0 (.int .u8 0) Tryz.underlying53 hi hz0 (some ⟨g, 0, none⟩) l.length cap (bv l) (by
        rw [hz1]
        refine run_firstCells_some w.drew 1 l.length ⟨g, 0, none⟩ l.length cap (bv l) (by rw [bv_len]; omega) (fun j u hu => ?_)
        have hj : j < l.length := by
          have := (List.getElem?_eq_some_iff.1 hu).1
          rw [bv_len] at this; exact this
        rw [Addr.add_lit, Nat.zero_add]
        refine (h6 j hj).trans ?_
        rw [← hu]
        simp [bv, List.getD, List.getElem?_eq_getElem hj]) _ news.length _ hsrc (by omega) (by omega) (by
        rw [hz2]
        have := nextslicecap_le (show cap < l.length + news.length by omega)
        omega)
    refine ⟨_, _, hr, ⟨w.heap.size, _, by rw [List.length_append], hbase, by simp, by rw [List.length_append]; exact hge, hle, fun i hi => ?_, fun i hi => ⟨?_, ?_⟩⟩, ?_⟩
    · have hx : ((bv l ++ byteCells ⟨news.toArray⟩).toArray ++ Builtin.zeroCells (Value.int .u8 0).cells (grownCap w (l.length + news.length) cap 5 - (l.length + news.length)))[i]? = some (.int .u8 (((l ++ news).getD i 0).toNat : Int)) := by
        rw [List.length_append] at hi
        rw [Array.getElem?_append_left (by simp [bv_len, hnl]; omega)]
        simp only [List.getElem?_toArray]
        by_cases hil : i < l.length
        · rw [List.getElem?_append_left (by rw [bv_len]; exact hil)]
          simp [bv, List.getD, List.getElem?_eq_getElem hil, List.getElem?_append_left hil]
        · obtain ⟨j, rfl⟩ : ∃ j, i = l.length + j := ⟨i - l.length, by omega⟩
          rw [List.getElem?_append_right (by rw [bv_len]; omega), bv_len, Nat.add_sub_cancel_left, bcells_at news j (by omega)]
          simp [List.getD, List.getElem?_append_right]
      exact (Blk.new w.drew _ 5).cell i |>.trans hx
    · have hx : i < ((bv l ++ byteCells ⟨news.toArray⟩).toArray ++ Builtin.zeroCells (Value.int .u8 0).cells (grownCap w (l.length + news.length) cap 5 - (l.length + news.length))).size := by
        simp [bv_len, hnl, size_zeroCells, Value.cells]
        omega
      show ((w.drew.alloc _).cell? ⟨w.drew.heap.size, i, none⟩).isSome = true
      rw [(Blk.new w.drew _ 5).cell i, Array.getElem?_eq_getElem hx]
      rfl
    · exact (Blk.new w.drew _ 5).froz i
    · exact (Below.refl _ _).drew.alloc hbase _

section
variable {ops : Array Oper} {o : Oper} {rest : List Oper} {a : Act} {w : World} {Q : Exit → Act → World → Prop}
theorem wpList_convO (hgd : o.guard = none) (x : Operand) (ho : o.op = .convert 9 53 x) (s : Bs) (hx : a.eval x = .string ⟨List.toArray (s)⟩) (base : Nat) (hbase : base ≤ w.heap.size) (hs : s.length ≤ maxLen)
    (h : ∀ v' w', BOwn w' base v' s → Below base w w' → wpList Tryz.prog ops Q rest (a.put o.dst v') w') : wpList Tryz.prog ops Q (o :: rest) a w := by
  refine wpList_plain hgd fun K hK => ?_
  obtain ⟨v, w', hr, h2, h3⟩ := run_conv_own w s base hbase hs
  unfold Oper.wp execOp
  simp only [ho, hx, Sem.run_bind, Sem.run_pure, Result.andThen_ok, hr]
  exact hK _ _ (h v w' h2 h3)
theorem wpList_appO (hgd : o.guard = none) (s x : Operand)
    (ho : o.op = .call { callee := .builtin .append, args := #[s, x], argTypes := #[53, 9] })
    (base : Nat) (v : Value) (l : Bs) (hs : a.eval s = v) (hown : BOwn w base v l) (news : Bs) (hx : a.eval x = .string ⟨List.toArray (news)⟩)
    (hlen : l.length + news.length ≤ 140737488355328) (hbase : base ≤ w.heap.size)
    (h : ∀ v' w', BOwn w' base v' (l ++ news) → Below base w w' → wpList Tryz.prog ops Q rest (a.put o.dst v') w') : wpList Tryz.prog ops Q (o :: rest) a w := by
  refine wpList_plain hgd fun K hK => ?_
  obtain ⟨v', w', hr, h2, h3⟩ := run_app_own w base v l news o.type hown hbase hlen
  unfold Oper.wp execOp
  simp only [ho, resolve, invoke, builtin, Sem.run_bind, Sem.run_pure, Result.andThen_ok, List.map_toArray, List.map_cons, List.map_nil, hs, hx, hr]
  exact hK _ _ (h v' w' h2 h3)
end

end Go.Proofs.YtdddcncjmnekcaaGreatDoor

/- Layer 3: the words of a block and of a text, as plain functions. -/
set_option linter.unusedSimpArgs false
set_option linter.unusedVariables false
namespace Go.Proofs.YtdddcncjmnekcaaGreatDoor
open Go.RowKit

abbrev W32 (x : Int) : Prop := 0 ≤ x ∧ x < 4294967296
def rotI (x n : Int) : Int := bits .or .u32 (x / 2 ^ n.toNat) (x * 2 ^ (32 - n).toNat % 4294967296)
theorem u32_wrap_bd (x : Int) : W32 (IntKind.u32.wrap x) := by
  rw [IntKind.wrap_u32']
  exact ⟨Int.emod_nonneg _ (by omega), Int.emod_lt_of_pos _ (by omega)⟩
theorem bits_bd (op : BinOp) (a b : Int) : W32 (bits op .u32 a b) := by
  unfold bits
  split <;> exact u32_wrap_bd _
theorem rotI_bd (x n : Int) : W32 (rotI x n) := bits_bd _ _ _

/-- An array of words, of bytes. -/
def arr (n : Nat) (f : Nat → Int) : List Value := (List.range n).map fun i => .int .u32 (f i)
def arb (n : Nat) (f : Nat → Int) : List Value := (List.range n).map fun i => .int .u8 (f i)
def updI (f : Nat → Int) (k : Nat) (x : Int) : Nat → Int := fun i => if i = k then x else f i
@[go_sem, simp] theorem arr_len (n : Nat) (f : Nat → Int) : (arr n f).length = n := by simp [arr]
@[go_sem, simp] theorem arb_len (n : Nat) (f : Nat → Int) : (arb n f).length = n := by simp [arb]
theorem arr_at (n : Nat) (f : Nat → Int) (i : Nat) (h : i < n) : (arr n f).toArray[i]? = some (.int .u32 (f i)) := by simp [arr, h]
theorem arb_at (n : Nat) (f : Nat → Int) (i : Nat) (h : i < n) : (arb n f).toArray[i]? = some (.int .u8 (f i)) := by simp [arb, h]
theorem arr_set (n : Nat) (f : Nat → Int) (k : Nat) (x : Int) : (arr n f).toArray.setIfInBounds k (.int .u32 x) = (arr n (updI f k x)).toArray := by
  apply Array.ext'
  rw [Array.toList_setIfInBounds]
  simp only [arr]
  apply List.ext_getElem (by simp)
  intro i h1 h2
  simp [List.getElem_set, updI]
  by_cases h : k = i
  · subst h; simp
  · rw [if_neg h, if_neg (fun e => h e.symm)]
theorem arb_set (n : Nat) (f : Nat → Int) (k : Nat) (x : Int) : (arb n f).toArray.setIfInBounds k (.int .u8 x) = (arb n (updI f k x)).toArray := by
  apply Array.ext'
  rw [Array.toList_setIfInBounds]
  simp only [arb]
  apply List.ext_getElem (by simp)
  intro i h1 h2
  simp [List.getElem_set, updI]
  by_cases h : k = i
  · subst h; simp
  · rw [if_neg h, if_neg (fun e => h e.symm)]
theorem arr_ext {n : Nat} {f g : Nat → Int} (h : ∀ i, i < n → f i = g i) : arr n f = arr n g := by
  unfold arr
  apply List.map_congr_left
  intro i hi
  rw [h i (by simpa using hi)]
theorem arr_one (n : Nat) (f : Nat → Int) : ∀ v ∈ arr n f, v.oneCell' = true := by
  intro v hv
  simp [arr] at hv
  obtain ⟨i, _, rfl⟩ := hv
  rfl
theorem arb_one (n : Nat) (f : Nat → Int) : ∀ v ∈ arb n f, v.oneCell' = true := by
  intro v hv
  simp [arb] at hv
  obtain ⟨i, _, rfl⟩ := hv
  rfl

theorem ofInt32_nat (a : Nat) (ha : a < 4294967296) : (BitVec.ofInt 32 (a : Int)).toNat = a := by
  rw [BitVec.toNat_ofInt]; omega
theorem u32_or_nat' (a b : Nat) (ha : a < 4294967296) (hb : b < 4294967296) : bits .or .u32 (a : Int) (b : Int) = ((a ||| b : Nat) : Int) := by
  have hx : a ||| b < 2 ^ 32 := Nat.or_lt_two_pow (by omega) (by omega)
  show IntKind.u32.wrap ((BitVec.ofInt 32 (a : Int) ||| BitVec.ofInt 32 (b : Int)).toNat : Int) = _
  rw [BitVec.toNat_or, ofInt32_nat a ha, ofInt32_nat b hb, IntKind.wrap_u32']
  omega
theorem u32_or_sum (a b i P : Nat) (hP : 2 ^ i = P) (hb : b < P) (h : a * P + b < 4294967296) : bits .or .u32 ((a * P : Nat) : Int) (b : Int) = ((a * P + b : Nat) : Int) := by
  subst hP
  rw [u32_or_nat' _ _ (by omega) (by omega), Nat.mul_comm a, Nat.two_pow_add_eq_or_of_lt hb a]
set_option maxRecDepth 100000 in
theorem or4 (a b c d : Int) (ha : 0 ≤ a ∧ a < 256) (hb : 0 ≤ b ∧ b < 256) (hc : 0 ≤ c ∧ c < 256) (hd : 0 ≤ d ∧ d < 256) :
    bits .or .u32 (bits .or .u32 (bits .or .u32 (a * 16777216) (b * 65536)) (c * 256)) d = a * 16777216 + b * 65536 + c * 256 + d := by
  obtain ⟨a, rfl⟩ := Int.eq_ofNat_of_zero_le ha.1
  obtain ⟨b, rfl⟩ := Int.eq_ofNat_of_zero_le hb.1
  obtain ⟨c, rfl⟩ := Int.eq_ofNat_of_zero_le hc.1
  obtain ⟨d, rfl⟩ := Int.eq_ofNat_of_zero_le hd.1
  have e1 := u32_or_sum a (b * 65536) 24 16777216 (by decide) (by omega) (by omega)
  have e2 := u32_or_sum (a * 256 + b) (c * 256) 16 65536 (by decide) (by omega) (by omega)
  have e3 := u32_or_sum (a * 65536 + b * 256 + c) d 8 256 (by decide) (by omega) (by omega)
  have c1 : ((a : Int) * 16777216) = ((a * 16777216 : Nat) : Int) := by omega
  have c2 : ((b : Int) * 65536) = ((b * 65536 : Nat) : Int) := by omega
  have c3 : ((a * 16777216 + b * 65536 : Nat) : Int) = (((a * 256 + b) * 65536 : Nat) : Int) := by omega
  have c4 : ((c : Int) * 256) = ((c * 256 : Nat) : Int) := by omega
  have c5 : (((a * 256 + b) * 65536 + c * 256 : Nat) : Int) = (((a * 65536 + b * 256 + c) * 256 : Nat) : Int) := by simp only [Nat.add_mul, Nat.mul_assoc, Nat.reduceMul]
  rw [c1, c2, e1, c3, c4, e2, c5, e3]
  simp only [Nat.add_mul, Nat.mul_assoc, Nat.reduceMul, Int.natCast_add, Int.natCast_mul]

/-- The word of four bytes. -/
def word4 (b : Nat → Int) (i : Nat) : Int := b (4 * i) * 16777216 + b (4 * i + 1) * 65536 + b (4 * i + 2) * 256 + b (4 * i + 3)
def sg0 (x : Int) : Int := bits .xor .u32 (bits .xor .u32 (rotI x 7) (rotI x 18)) (x / 8)
def sg1 (y : Int) : Int := bits .xor .u32 (bits .xor .u32 (rotI y 17) (rotI y 19)) (y / 1024)
def add32 (a b : Int) : Int := (a + b) % 4294967296
/-- The words of a block. -/
def sch (b : Nat → Int) (i : Nat) : Int :=
  if h : i < 16 then word4 b i
  else (sch b (i - 16) + sg0 (sch b (i - 15)) + sch b (i - 7) + sg1 (sch b (i - 2))) % 4294967296
termination_by i
decreasing_by all_goals omega
def bS1 (e : Int) : Int := bits .xor .u32 (bits .xor .u32 (rotI e 6) (rotI e 11)) (rotI e 25)
def bS0 (a : Int) : Int := bits .xor .u32 (bits .xor .u32 (rotI a 2) (rotI a 13)) (rotI a 22)
theorem add32_bd (a b : Int) : W32 (add32 a b) := ⟨Int.emod_nonneg _ (by omega), Int.emod_lt_of_pos _ (by omega)⟩
theorem sch_bd (b : Nat → Int) (hb : ∀ i, i < 64 → 0 ≤ b i ∧ b i < 256) (i : Nat) : W32 (sch b i) := by
  rw [sch]
  split
  · rename_i h
    have h0 := hb (4 * i) (by omega)
    have h1 := hb (4 * i + 1) (by omega)
    have h2 := hb (4 * i + 2) (by omega)
    have h3 := hb (4 * i + 3) (by omega)
    unfold word4 W32
    omega
  · exact ⟨Int.emod_nonneg _ (by omega), Int.emod_lt_of_pos _ (by omega)⟩

end Go.Proofs.YtdddcncjmnekcaaGreatDoor

/- Walks of layer 3: turned words, the words of a block. -/
set_option linter.unusedSimpArgs false
set_option linter.unusedVariables false
namespace Go.Proofs.YtdddcncjmnekcaaGreatDoor
open Go.RowKit

set_option maxHeartbeats 400000 in
theorem rot_any (x : Int) (n : Int) (hx : 0 ≤ x) (hx2 : x < 4294967296) (hn : 0 ≤ n) (hn2 : n ≤ 32) (w : World) :
    Calls Tryz.prog 109 #[.int .u32 x, .int .u64 n] w fun e w' => e = .returned (.int .u32 (rotI x n)) ∧ w = w' := by
  go_enter Tryz.func109, Tryz.ntmps109
  go_wp2_with fail
  go_ret
  exact ⟨rfl, rfl⟩
set_option maxHeartbeats 400000 in
theorem turned_any (x : Int) (n : Int) (hx : 0 ≤ x) (hx2 : x < 4294967296) (hn : 0 ≤ n) (hn2 : n ≤ 32) (w : World) :
    Calls Tryz.prog 75 #[.int .u32 x, .int .i64 n] w fun e w' => e = .returned (.int .u32 (rotI x n)) ∧ w = w' := by
  go_enter Tryz.func75, Tryz.ntmps75
  go_wp2_with fail
  go_ret
  exact ⟨rfl, rfl⟩

theorem rot_st (x : Int) (n : Int) (hx : 0 ≤ x) (hx2 : x < 4294967296) (hn : 0 ≤ n) (hn2 : n ≤ 32) (w : World) :
    Calls Tryz.prog 109 #[.int .u32 x, .int .u64 n] w fun e w' => e = .returned (.int .u32 (rotI x n)) ∧ w' = w :=
  (rot_any x n hx hx2 hn hn2 w).mono fun _ _ ⟨h, h2⟩ => ⟨h, h2.symm⟩

theorem row64w : RowT Tryz.prog 143 64 := RowT.mk' Tryz.underlying143 rfl (by kernel_rfl)
theorem row64b : RowT Tryz.prog 98 64 := RowT.mk' Tryz.underlying98 rfl (by kernel_rfl)
theorem row8w : RowT Tryz.prog 96 8 := RowT.mk' Tryz.underlying96 rfl (by kernel_rfl)
theorem row16w : RowT Tryz.prog 119 16 := RowT.mk' Tryz.underlying119 rfl (by kernel_rfl)

theorem zero64w : (arr 64 fun _ => 0).toArray = #[Value.int .u32 0, Value.int .u32 0, Value.int .u32 0, Value.int .u32 0, Value.int .u32 0, Value.int .u32 0, Value.int .u32 0, Value.int .u32 0, Value.int .u32 0, Value.int .u32 0, Value.int .u32 0, Value.int .u32 0, Value.int .u32 0, Value.int .u32 0, Value.int .u32 0, Value.int .u32 0, Value.int .u32 0, Value.int .u32 0, Value.int .u32 0, Value.int .u32 0, Value.int .u32 0, Value.int .u32 0, Value.int .u32 0, Value.int .u32 0, Value.int .u32 0, Value.int .u32 0, Value.int .u32 0, Value.int .u32 0, Value.int .u32 0, Value.int .u32 0, Value.int .u32 0, Value.int .u32 0, Value.int .u32 0, Value.int .u32 0, Value.int .u32 0, Value.int .u32 0, Value.int .u32 0, Value.int .u32 0, Value.int .u32 0, Value.int .u32 0, Value.int .u32 0, Value.int .u32 0, Value.int .u32 0, Value.int .u32 0, Value.int .u32 0, Value.int .u32 0, Value.int .u32 0, Value.int .u32 0, Value.int .u32 0, Value.int .u32 0, Value.int .u32 0, Value.int .u32 0, Value.int .u32 0, Value.int .u32 0, Value.int .u32 0, Value.int .u32 0, Value.int .u32 0, Value.int .u32 0, Value.int .u32 0, Value.int .u32 0, Value.int .u32 0, Value.int .u32 0, Value.int .u32 0, Value.int .u32 0] := rfl
def schTo (b : Nat → Int) (k : Nat) : Nat → Int := fun i => if i < k then sch b i else 0
theorem schTo_succ (b : Nat → Int) (k : Nat) : updI (schTo b k) k (sch b k) = schTo b (k + 1) := by
  funext i
  unfold updI schTo
  by_cases h : i = k
  · subst h; rw [if_pos rfl, if_pos (by omega)]
  · rw [if_neg h]
    by_cases h2 : i < k
    · rw [if_pos h2, if_pos (by omega)]
    · rw [if_neg h2, if_neg (by omega)]

set_option maxRecDepth 100000 in
set_option maxHeartbeats 1000000 in
theorem spread_any (b : Nat → Int) (hb : ∀ i, i < 64 → 0 ≤ b i ∧ b i < 256) (w : World) :
    Calls Tryz.prog 108 #[.agg (arb 64 b).toArray] w fun e w' => e = .returned (.agg (arr 64 (sch b)).toArray) ∧ Below w.heap.size w w' := by
  have HB := Lib.hid hb
  have HSB := Lib.hid (sch_bd b hb)
  clear hb
  go_enter Tryz.func108, Tryz.ntmps108
  go_wp2_with fail
  go_loopw [8] (fun s8 wr => ∃ k : Nat, k ≤ 16 ∧ s8 = .int .i64 k ∧ Blk wr w.heap.size (arb 64 b).toArray ∧ Blk wr (w.heap.size + 1) (arr 64 fun _ => 0).toArray ∧ Blk wr (w.heap.size + 1 + 1) (arr 64 (schTo b k)).toArray ∧ Below w.heap.size w wr) (fun s8 _ => 16 - (intOf s8).toNat)
  case atStart =>
    rw [zero64w]
    exact ⟨0, by omega, rfl, ((Blk.new w _ _).alloc _).alloc _, (Blk.new' (by simp)).alloc _, by rw [show schTo b 0 = fun _ => 0 from by funext i; simp [schTo], zero64w]; exact Blk.new' (by simp), by (repeat (first | exact Below.refl _ _ | assumption | apply Below.drew | apply below_drewN | apply Below.allocS | (refine Below.setCell ?_ (by simp <;> omega) _) | (refine Below.alloc ?_ (by simp <;> omega) _) | (refine Below.trans ?_ (Below.mono (by assumption) (by simp <;> omega)))))⟩
  case round =>
    obtain ⟨k, hk, rfl, B, Z, W, hb⟩ := hrel
    rename_i wr
    by_cases hlt : k < 16
    · have b0 := HB.out (4 * k) (by omega)
      have b1 := HB.out (4 * k + 1) (by omega)
      have b2 := HB.out (4 * k + 2) (by omega)
      have b3 := HB.out (4 * k + 3) (by omega)
      have c0 := B.cell (4 * k)
      rw [arb_at 64 b _ (by omega)] at c0
      have c1 := B.cell (4 * k + 1)
      rw [arb_at 64 b _ (by omega)] at c1
      have c2 := B.cell (4 * k + 2)
      rw [arb_at 64 b _ (by omega)] at c2
      have c3 := B.cell (4 * k + 3)
      rw [arb_at 64 b _ (by omega)] at c3
      have d0 := W.cell k
      rw [arr_at 64 _ _ (by omega)] at d0
      have d1 := W.froz
      have t0 : (4 * (k : Int)).toNat = 4 * k := by omega
      have t1 : (4 * (k : Int) + 1).toNat = 4 * k + 1 := by omega
      have t2 : (4 * (k : Int) + 2).toNat = 4 * k + 2 := by omega
      have t3 : (4 * (k : Int) + 3).toNat = 4 * k + 3 := by omega
      have i0 : IntKind.i64.wrap (4 * (k : Int)) = 4 * (k : Int) := by rw [IntKind.wrap_i64]; omega
      have i1 : IntKind.i64.wrap (4 * (k : Int) + 1) = 4 * (k : Int) + 1 := by rw [IntKind.wrap_i64]; omega
      have i2 : IntKind.i64.wrap (4 * (k : Int) + 2) = 4 * (k : Int) + 2 := by rw [IntKind.wrap_i64]; omega
      have i3 : IntKind.i64.wrap (4 * (k : Int) + 3) = 4 * (k : Int) + 3 := by rw [IntKind.wrap_i64]; omega
      generalize hx0 : b (4 * k) = x0 at *
      generalize hx1 : b (4 * k + 1) = x1 at *
      generalize hx2 : b (4 * k + 2) = x2 at *
      generalize hx3 : b (4 * k + 3) = x3 at *
      have HX0 := Lib.hid hx0
      have HX1 := Lib.hid hx1
      have HX2 := Lib.hid hx2
      have HX3 := Lib.hid hx3
      clear hx0 hx1 hx2 hx3
      go_wp2_with fail
      go_region
      go_wp2_with fail
      have hw4 : bits .or .u32 (bits .or .u32 (bits .or .u32 (x0 * 16777216) (x1 * 65536)) (x2 * 256)) x3 = sch b k := by
        rw [or4 x0 x1 x2 x3 (by omega) (by omega) (by omega) (by omega), sch, dif_pos hlt, word4, HX0.out, HX1.out, HX2.out, HX3.out]
      have W1 := (W.set k (.int .u32 (sch b k))).drew
      rw [arr_set, schTo_succ] at W1
      rw [hw4]
      exact ⟨⟨k + 1, by omega, by go_num, (B.other (by simp <;> omega) _).drew, (Z.other (by simp <;> omega) _).drew, W1, (hb.setCell (by simp <;> omega) _).drew⟩, by simp [intOf]; omega⟩
    · have hke : k = 16 := by omega
      subst hke
      rw [show ((16 : Nat) : Int) = 16 from rfl]
      go_wp2_with fail
      go_loopw [5] (fun s5 wr => ∃ k : Nat, 16 ≤ k ∧ k ≤ 64 ∧ s5 = .int .i64 k ∧ Blk wr (w.heap.size + 1) (arr 64 fun _ => 0).toArray ∧ Blk wr (w.heap.size + 1 + 1) (arr 64 (schTo b k)).toArray ∧ Below w.heap.size w wr) (fun s5 _ => 64 - (intOf s5).toNat)
      case atStart => exact ⟨16, by omega, by omega, rfl, Z, W, hb⟩
      case round =>
        clear Z W hb B
        obtain ⟨k, hk0, hk, rfl, Z, W, hb⟩ := hrel
        rename_i wq
        by_cases hlt : k < 64
        · have f0 : schTo b k (k - 16) = sch b (k - 16) := if_pos (by omega)
          have f1 : schTo b k (k - 15) = sch b (k - 15) := if_pos (by omega)
          have f2 : schTo b k (k - 7) = sch b (k - 7) := if_pos (by omega)
          have f3 : schTo b k (k - 2) = sch b (k - 2) := if_pos (by omega)
          have c0 := W.cell (k - 16)
          rw [arr_at 64 _ _ (by omega), f0] at c0
          have c1 := W.cell (k - 15)
          rw [arr_at 64 _ _ (by omega), f1] at c1
          have c2 := W.cell (k - 7)
          rw [arr_at 64 _ _ (by omega), f2] at c2
          have c3 := W.cell (k - 2)
          rw [arr_at 64 _ _ (by omega), f3] at c3
          have d0 := W.cell k
          rw [arr_at 64 _ _ (by omega)] at d0
          have d1 := W.froz
          have HS : Hid (sch b k = (sch b (k - 16) + sg0 (sch b (k - 15)) + sch b (k - 7) + sg1 (sch b (k - 2))) % 4294967296) := Lib.hid (by rw [sch, dif_neg (by omega)])
          obtain ⟨p0, p0'⟩ := HSB.out (k - 16)
          obtain ⟨p1, p1'⟩ := HSB.out (k - 15)
          obtain ⟨p2, p2'⟩ := HSB.out (k - 7)
          obtain ⟨p3, p3'⟩ := HSB.out (k - 2)
          have t0 : ((k : Int) - 16).toNat = k - 16 := by omega
          have t1 : ((k : Int) - 15).toNat = k - 15 := by omega
          have t2 : ((k : Int) - 7).toNat = k - 7 := by omega
          have t3 : ((k : Int) - 2).toNat = k - 2 := by omega
          have i0 : IntKind.i64.wrap ((k : Int) - 16) = (k : Int) - 16 := by rw [IntKind.wrap_i64]; omega
          have i1 : IntKind.i64.wrap ((k : Int) - 15) = (k : Int) - 15 := by rw [IntKind.wrap_i64]; omega
          have i2 : IntKind.i64.wrap ((k : Int) - 7) = (k : Int) - 7 := by rw [IntKind.wrap_i64]; omega
          have i3 : IntKind.i64.wrap ((k : Int) - 2) = (k : Int) - 2 := by rw [IntKind.wrap_i64]; omega
          have G0 := Lib.hid f0
          have G2 := Lib.hid f2
          clear f0 f1 f2 f3
          generalize sch b (k - 16) = x0 at *
          generalize sch b (k - 15) = x1 at *
          generalize sch b (k - 7) = x2 at *
          generalize sch b (k - 2) = x3 at *
          go_wp2_with fail
          go_quiet (fail)
          go_wp2_with fail
          refine wp_tail 29 (by kernel_rfl) (by kernel_rfl) ?_
          intro w2 hw2
          have W2 : Blk w2 (w.heap.size + 1 + 1) (arr 64 (schTo b k)).toArray := by rw [hw2]; exact (W.drewN _).drew
          have Z2 : Blk w2 (w.heap.size + 1) (arr 64 fun _ => 0).toArray := by rw [hw2]; exact (Z.drewN _).drew
          have hb2 : Below w.heap.size w w2 := by rw [hw2]; exact (below_drewN hb _).drew
          clear hw2 W Z hb c0 c1 c2 c3 d0 d1
          have c0 := W2.cell (k - 16)
          rw [arr_at 64 _ _ (by omega), G0.out] at c0
          have c2 := W2.cell (k - 7)
          rw [arr_at 64 _ _ (by omega), G2.out] at c2
          have d0 := W2.cell k
          rw [arr_at 64 _ _ (by omega)] at d0
          have d1 := W2.froz
          simp only [List.take_succ_cons, List.take_zero, List.drop_succ_cons, List.drop_zero]
          have q0 : (16 : Int) ≤ (k : Int) := by omega
          have q1 : (k : Int) - 16 < 64 := by omega
          have q2 : (7 : Int) ≤ (k : Int) := by omega
          have q3 : (k : Int) - 7 < 64 := by omega
          have q4 : (k : Int) < 64 := by omega
          repeat (first | still_step | still_call (rot_st _ _ (by omega) (by omega) (by omega) (by omega) _))
          refine wpStill_nil ?_
          go_wp2_with fail
          have W3 := W2.set k (.int .u32 (sch b k))
          rw [arr_set, schTo_succ] at W3
          rw [HS.out] at W3
          exact ⟨⟨k + 1, by omega, by omega, by go_num, Z2.other (by simp <;> omega) _, W3, hb2.setCell (by simp <;> omega) _⟩, by simp [intOf]; omega⟩
        · have hke : k = 64 := by omega
          subst hke
          have hse : arr 64 (schTo b 64) = arr 64 (sch b) := arr_ext (fun i hi => if_pos hi)
          rw [hse] at W
          rw [zero64w] at Z
          go_wp2_with (first
            | (refine wpList_rowLoad row64w rfl (.tmp 3) rfl rfl (arr_len 64 _) W ?_)
            | (refine wpList_rowStore row64w rfl rfl (.tmp 2) (.tmp 84) rfl rfl rfl (arr_len 64 _) (arr_one 64 _) (by simp) Z ?_; intro w3 Z3 m3))
          refine bodyPost_ret (results_cell1 rfl _ _ _ _ rfl (row_loadVar row64w _ (arr_len 64 _) Z3)) rfl ?_
          exact ⟨rfl, Below.mod hb m3 (by have := hb.size; omega) (by simp)⟩
end Go.Proofs.YtdddcncjmnekcaaGreatDoor
