/- List, RList, Ref2, Ref2R, RefL, MRef, Cert, CertC. -/
import Derived.Lib.ConvBytes
import Derived.Deep.AppendSrc
import Derived.Test.YtbnjhfkmdejeaaaDoorMg1
import Derived.Test.YtbnjhfkmdejeaaaDoorMg2
import Derived.Test.YtbnjhfkmdejeaaaDoorMg3
import Derived.Test.YtbnjhfkmdejeaaaDoorMg4
import Derived.Test.YtbnjhfkmdejeaaaDoorMg6
import Derived.Test.YtbnjhfkmdejeaaaDoorMg10
set_option linter.unnecessarySimpa false

/- Walks of layer 2: lists. -/
set_option linter.unusedSimpArgs false
set_option linter.unusedVariables false
namespace Go.Proofs.YtbnjhfkmdejeaaaDoor
open Go.RowKit Pl

/-- v is a slice of a block from base on, with these bytes; none of its cells is frozen. -/
def BOwn (w : World) (base : Nat) (v : Value) (l : Bs) : Prop :=
  ∃ g cap, v = .slice (some ⟨g, 0, none⟩) l.length cap ∧ base ≤ g ∧ g < w.heap.size ∧ l.length ≤ cap ∧ cap ≤ maxLen ∧
    (∀ i, i < l.length → w.cell? ⟨g, i, none⟩ = some (.int .u8 ((l.getD i 0).toNat : Int))) ∧ ∀ i, i < cap → (w.cell? ⟨g, i, none⟩).isSome = true ∧ w.frozen? ⟨g, i, none⟩ = false
theorem BOwn.keep {W w : World} {base : Nat} {v : Value} {l : Bs} (h : BOwn W base v l) (hb : Below W.heap.size W w) : BOwn w base v l := by
  obtain ⟨g, cap, h1, h2, h3, h4, h5, h6, h7⟩ := h
  exact ⟨g, cap, h1, h2, Nat.lt_of_lt_of_le h3 hb.size, h4, h5, fun i hi => (hb.cell (p := ⟨g, i, none⟩) h3).trans (h6 i hi), fun i hi => ⟨by rw [hb.cell (p := ⟨g, i, none⟩) h3]; exact (h7 i hi).1, (hb.frozen (p := ⟨g, i, none⟩) h3).trans (h7 i hi).2⟩⟩
theorem BOwn.conv {w : World} {base : Nat} {v : Value} {l : Bs} (h : BOwn w base v l) : (convert 89 9 v).run Tryd.prog w = .ok (.string ⟨List.toArray (l)⟩) w := by
  obtain ⟨g, cap, rfl, h2, h3, h4, h5, h6, h7⟩ := h
  exact conv_str 89 5 9 Tryd.underlying89 Tryd.underlying5 Tryd.underlying9 g 0 l.length cap l rfl (fun i hi => by simpa using h6 i hi)
theorem bs_size (s : Bs) : (⟨s.toArray⟩ : ByteArray).size = s.length := by simp [ByteArray.size]
theorem bcells_at (s : Bs) (j : Nat) (hj : j < s.length) : (byteCells ⟨s.toArray⟩)[j]? = some (.int .u8 ((s.getD j 0).toNat : Int)) := by
  simp [byteCells, List.getD, List.getElem?_eq_getElem hj]

/-- '[]byte(s)'. -/
theorem run_conv_own (w : World) (s : Bs) (base : Nat) (hbase : base ≤ w.heap.size) (hs : s.length ≤ maxLen) :
    ∃ v w', (convert 9 89 (.string ⟨List.toArray (s)⟩)).run Tryd.prog w = .ok v w' ∧ BOwn w' base v s ∧ Below base w w' := by
  have hr := Lib.run_convert_string_bytes (P := Tryd.prog) w 9 89 5 ⟨s.toArray⟩ Tryd.underlying9 Tryd.underlying89 Tryd.underlying5
  have hz := bs_size s
  have hge := grownCap_ge w s.length 0 5
  have hle := grownCap_le_maxLen w s.length 0 5 hs
  have hcs : (Lib.bytesCells w 5 ⟨s.toArray⟩).size = grownCap w s.length 0 5 := by
    simp only [Lib.bytesCells, hz, Array.size_append, Array.size_map, Array.size_replicate, List.size_toArray]
    omega
  rw [hz] at hr
  refine ⟨_, _, hr, ⟨w.heap.size, _, rfl, hbase, by rw [Lib.bytesWorld_size]; omega, hge, hle, fun i hi => ?_, fun i hi => ?_⟩, ⟨rfl, rfl, rfl, by rw [Lib.bytesWorld_size]; omega, fun k hk => Lib.bytesWorld_at_old w _ _ k (by omega)⟩⟩
  · have h := Lib.bytesWorld_cell w 5 ⟨s.toArray⟩ i (by rw [hz]; exact hi)
    exact h
  · have hat := Lib.bytesWorld_at_new w 5 ⟨s.toArray⟩
    refine ⟨?_, ?_⟩
    · simp only [World.cell?, hat]
      simp [hcs, hi]
    · simp only [World.frozen?, hat, hcs]
      simp; omega

/-- append(v, s...) of a text's bytes. -/
theorem run_app_own (w : World) (base : Nat) (v : Value) (l news : Bs) (ty : TypeId) (h : BOwn w base v l) (hbase : base ≤ w.heap.size) (hlen : l.length + news.length ≤ 140737488355328) :
    ∃ v' w', (Builtin.append_ #[89, 9] ty #[v, .string ⟨List.toArray (news)⟩]).run Tryd.prog w = .ok v' w' ∧ BOwn w' base v' (l ++ news) ∧ Below base w w' := by
  obtain ⟨i0, hi, hz0, hz1, hz2⟩ := info_parts infoU8
  obtain ⟨g, cap, rfl, h2, h3, h4, h5, h6, h7⟩ := h
  have hz := bs_size news
  have hsrc := Src.ofString (P := Tryd.prog) w (tx := 9) Tryd.underlying9 ⟨news.toArray⟩
  rw [hz, ← hz1] at hsrc
  have hnl : (byteCells ⟨news.toArray⟩).length = news.length := by rw [byteCells_length, hz]
  by_cases hroom : l.length + news.length ≤ cap
  · have hth : ∀ j, j < (byteCells ⟨news.toArray⟩).length → (w.cell? ⟨g, l.length + j, none⟩).isSome = true := fun j hj => (h7 _ (by omega)).1
    have hr := run_append_room_src (P := Tryd.prog) w 89 9 ty 5 i0 Tryd.underlying89 hi g 0 l.length cap _ news.length _ hsrc hroom (fun j hj => by rw [hz1, Nat.mul_one, Nat.zero_add]; exact hth j hj) (fun j hj => by rw [hz1, Nat.mul_one, Nat.zero_add]; exact (h7 _ (by omega)).2)
    rw [hz1, Nat.mul_one, Nat.zero_add] at hr
    refine ⟨_, _, hr, ⟨g, cap, by rw [List.length_append], h2, ?_, by rw [List.length_append]; exact hroom, h5, fun i hi => ?_, fun i hi => ⟨?_, ?_⟩⟩, ?_⟩
    · exact Nat.lt_of_lt_of_le h3 (Mod.setCellsL g _ _ w).size
    · by_cases hil : i < l.length
      · rw [World.cell?_setCells_out g _ _ w _ (fun _ _ => .inl (by show i < l.length; omega)), h6 i hil]
        simp [List.getD, List.getElem?_append_left hil]
      · obtain ⟨j, rfl⟩ : ∃ j, i = l.length + j := ⟨i - l.length, by omega⟩
        have hj : j < news.length := by simp at hi; omega
        rw [World.cell?_setCells_in g _ _ w hth j (by omega), ← List.getElem?_eq_getElem, bcells_at news j hj]
        simp [List.getD, List.getElem?_append_right]
    · by_cases hin : l.length ≤ i ∧ i < l.length + news.length
      · obtain ⟨j, rfl⟩ : ∃ j, i = l.length + j := ⟨i - l.length, by omega⟩
        rw [World.cell?_setCells_in g _ _ w hth j (by omega)]
        rfl
      · rw [World.cell?_setCells_out g _ _ w _ (fun _ _ => (show i < l.length ∨ l.length + _ ≤ i by omega))]
        exact (h7 i hi).1
    · rw [World.frozen?_setCells]
      exact (h7 i hi).2
    · exact Below.mod (Below.refl _ _) (Mod.setCellsL g _ _ w) hbase (by simpa using h2)
  · have hge := grownCap_ge w (l.length + news.length) cap 5
    have hle := grownCap_le_maxLen w (l.length + news.length) cap 5 (by unfold maxLen; omega)
    have hr := run_append_grow_src (P := Tryd.prog) w 89 9 ty 5 i0 (.int .u8 0) Tryd.underlying89 hi hz0 (some ⟨g, 0, none⟩) l.length cap (bv l) (by
        rw [hz1]
        refine run_firstCells_some w.drew 1 l.length ⟨g, 0, none⟩ l.length cap (bv l) (by rw [bv_len]; omega) (fun j u hu => ?_)
        have hj : j < l.length := by
          have := (List.getElem?_eq_some_iff.1 hu).1
          rw [bv_len] at this; exact this
        rw [Addr.add_lit, Nat.zero_add]
        refine (h6 j hj).trans ?_
        rw [← hu]
        simp [bv, List.getD, List.getElem?_eq_getElem hj]) _ news.length _ hsrc (by omega) (by omega) (by
        rw [hz2]
        have := nextslicecap_le (show cap < l.length + news.length by omega)
        omega)
    refine ⟨_, _, hr, ⟨w.heap.size, _, by rw [List.length_append], hbase, by simp, by rw [List.length_append]; exact hge, hle, fun i hi => ?_, fun i hi => ⟨?_, ?_⟩⟩, ?_⟩
    · have hx : ((bv l ++ byteCells ⟨news.toArray⟩).toArray ++ Builtin.zeroCells (Value.int .u8 0).cells (grownCap w (l.length + news.length) cap 5 - (l.length + news.length)))[i]? = some (.int .u8 (((l ++ news).getD i 0).toNat : Int)) := by
        rw [List.length_append] at hi
        rw [Array.getElem?_append_left (by simp [bv_len, hnl]; omega)]
        simp only [List.getElem?_toArray]
        by_cases hil : i < l.length
        · rw [List.getElem?_append_left (by rw [bv_len]; exact hil)]
          simp [bv, List.getD, List.getElem?_eq_getElem hil, List.getElem?_append_left hil]
        · obtain ⟨j, rfl⟩ : ∃ j, i = l.length + j := ⟨i - l.length, by omega⟩
          rw [List.getElem?_append_right (by rw [bv_len]; omega), bv_len, Nat.add_sub_cancel_left, bcells_at news j (by omega)]
          simp [List.getD, List.getElem?_append_right]
      exact (Blk.new w.drew _ 5).cell i |>.trans hx
    · have hx : i < ((bv l ++ byteCells ⟨news.toArray⟩).toArray ++ Builtin.zeroCells (Value.int .u8 0).cells (grownCap w (l.length + news.length) cap 5 - (l.length + news.length))).size := by
        simp [bv_len, hnl, size_zeroCells, Value.cells]
        omega
      show ((w.drew.alloc _).cell? ⟨w.drew.heap.size, i, none⟩).isSome = true
      rw [(Blk.new w.drew _ 5).cell i, Array.getElem?_eq_getElem hx]
      rfl
    · exact (Blk.new w.drew _ 5).froz i
    · exact (Below.refl _ _).drew.alloc hbase _

section
variable {ops : Array Oper} {o : Oper} {rest : List Oper} {a : Act} {w : World} {Q : Exit → Act → World → Prop}
theorem wpList_convO (hgd : o.guard = none) (x : Operand) (ho : o.op = .convert 9 89 x) (s : Bs) (hx : a.eval x = .string ⟨List.toArray (s)⟩) (base : Nat) (hbase : base ≤ w.heap.size) (hs : s.length ≤ maxLen)
    (h : ∀ v' w', BOwn w' base v' s → Below base w w' → wpList Tryd.prog ops Q rest (a.put o.dst v') w') : wpList Tryd.prog ops Q (o :: rest) a w := by
  refine wpList_plain hgd fun K hK => ?_
  obtain ⟨v, w', hr, h2, h3⟩ := run_conv_own w s base hbase hs
  unfold Oper.wp execOp
  simp only [ho, hx, Sem.run_bind, Sem.run_pure, Result.andThen_ok, hr]
  exact hK _ _ (h v w' h2 h3)
theorem wpList_appO (hgd : o.guard = none) (s x : Operand)
    (ho : o.op = .call { callee := .builtin .append, args := #[s, x], argTypes := #[89, 9] })
    (base : Nat) (v : Value) (l : Bs) (hs : a.eval s = v) (hown : BOwn w base v l) (news : Bs) (hx : a.eval x = .string ⟨List.toArray (news)⟩)
    (hlen : l.length + news.length ≤ 140737488355328) (hbase : base ≤ w.heap.size)
    (h : ∀ v' w', BOwn w' base v' (l ++ news) → Below base w w' → wpList Tryd.prog ops Q rest (a.put o.dst v') w') : wpList Tryd.prog ops Q (o :: rest) a w := by
  refine wpList_plain hgd fun K hK => ?_
  obtain ⟨v', w', hr, h2, h3⟩ := run_app_own w base v l news o.type hown hbase hlen
  unfold Oper.wp execOp
  simp only [ho, resolve, invoke, builtin, Sem.run_bind, Sem.run_pure, Result.andThen_ok, List.map_toArray, List.map_cons, List.map_nil, hs, hx, hr]
  exact hK _ _ (h v' w' h2 h3)
end

end Go.Proofs.YtbnjhfkmdejeaaaDoor

/- Walks of layer 2: a list out of a reader. -/
set_option linter.unusedSimpArgs false
set_option linter.unusedVariables false
namespace Go.Proofs.YtbnjhfkmdejeaaaDoor
open Go.RowKit Pl

theorem SRow.mod {w w' : World} {b p : Nat} {v : Value} {l : List Bs} (h : SRow w b v l) (hm : Mod [p] w w') (hp : p < b) : SRow w' b v l := by
  refine h.kept (fun k hk => hm.block k ?_ ?_)
  · rcases h.cells with ⟨rfl, _⟩ | ⟨g, cap, rfl, _, hg, _⟩
    · cases hk
    · cases hk; exact hg
  · have := h.own k hk
    simp; omega
theorem SRow.drewN {w : World} {b : Nat} {v : Value} {l : List Bs} (h : SRow w b v l) (n : Nat) : SRow (w.drewN n) b v l := h
theorem SRow.low {w : World} {b c : Nat} {v : Value} {l : List Bs} (h : SRow w b v l) (hc : c ≤ b) : SRow w c v l := by
  refine ⟨h.1, h.2.imp id ?_⟩
  rintro ⟨g, cap, cur, hv, h1, h2⟩
  exact ⟨g, cap, cur, hv, Nat.le_trans hc h1, h2⟩
theorem Mod.grow {l : List Nat} {a w w' : World} (h : Mod l a w) (k : Below a.heap.size w w') : Mod l a w' :=
  ⟨k.os.trans h.os, k.tape.trans h.tape, k.output.trans h.output, Nat.le_trans h.size k.size, fun i hi hn => (k.block i hi).trans (h.block i hi hn)⟩
namespace Pl
/-- What is left to be told behind i texts. -/
theorem lGo_step (each : Int) (n : Nat) (s : Bs) (h : (tx s each).2.2 = 0) : lGo each (n + 1) s = ((tx s each).1 :: (lGo each n (tx s each).2.1).1, (lGo each n (tx s each).2.1).2) := by
  rw [lGo, if_neg (by simpa using h)]
theorem lGo_bad (each : Int) (n : Nat) (s : Bs) (h : (tx s each).2.2 ≠ 0) : (lGo each (n + 1) s).2.2 = (tx s each).2.2 := by
  rw [lGo, if_pos h]
end Pl

end Go.Proofs.YtbnjhfkmdejeaaaDoor

/- Walks of the document's answer for layer 2. -/
set_option linter.unusedSimpArgs false
set_option linter.unusedVariables false
namespace Go.Proofs.YtbnjhfkmdejeaaaDoor
open Go.RowKit Pl




theorem take_cons' (k : UInt8) (r : Bs) : Pl.take (k :: r) = (if 8 < k.toNat then (0, [], 3)
    else if r.length < k.toNat then (0, [], 20)
    else if (0 < k.toNat ∧ r.headD 0 = 0) ∨ (k.toNat = 8 ∧ 127 < (r.headD 0).toNat) then (0, [], 3)
    else (be (r.take k.toNat), r.drop k.toNat, 0)) := rfl


end Go.Proofs.YtbnjhfkmdejeaaaDoor

/- Walks of the document's answer for layer 2: its reader. -/
set_option linter.unusedSimpArgs false
set_option linter.unusedVariables false
namespace Go.Proofs.YtbnjhfkmdejeaaaDoor
open Go.RowKit Pl


theorem tx_len (s : Bs) (most : Int) : (tx s most).1.length ≤ s.length ∧ (tx s most).2.1.length ≤ s.length := by
  unfold tx
  by_cases he : (Pl.take s).2.2 = 0
  · obtain ⟨_, k, hk1, hk2, hk3⟩ := take_le s he
    rw [if_neg (by simpa using he)]
    split
    · simp
    · split
      · simp
      · rw [hk3]; simp; omega
  · rw [if_pos he]; simp


/-- The document's reader at block p. -/
def RRdr (w : World) (p : Nat) (s : Bs) (c : Int) : Prop := Blk w p #[.string ⟨List.toArray (s)⟩, .int .i64 (c)]





end Go.Proofs.YtbnjhfkmdejeaaaDoor

/- The document's lists: as bytes, and out of its reader. -/
set_option linter.unusedSimpArgs false
set_option linter.unusedVariables false
namespace Go.Proofs.YtbnjhfkmdejeaaaDoor
open Go.RowKit Pl


namespace Pl
theorem lGo_rest (each : Int) : ∀ (n : Nat) (s : Bs), (lGo each n s).2.1.length ≤ s.length
  | 0, s => Nat.le_refl _
  | n + 1, s => by
    unfold lGo
    have h := (tx_len s each).2
    split
    · simp
    · exact Nat.le_trans (lGo_rest each n _) h
theorem mList_rest (s : Bs) (c most each : Int) : (mList s c most each).2.1.length ≤ s.length := by
  unfold mList
  split
  · simp
  · split
    · simp
    · rename_i h
      split
      · simp
      · split
        · simp
        · refine Nat.le_trans (lGo_rest each _ _) ?_
          obtain ⟨_, k, _, _, hk⟩ := take_le s (by simpa using h)
          rw [hk]; simp
theorem lGo_len (each : Int) (h0 : 0 ≤ each) : ∀ (n : Nat) (s : Bs), ∀ x ∈ (lGo each n s).1, (x.length : Int) ≤ each
  | 0, s => by simp [lGo]
  | n + 1, s => by
    unfold lGo
    split
    · simp
    · rename_i hne
      intro x hx
      rcases List.mem_cons.1 hx with rfl | hx
      · have h := mText_len s 0 each h0
        have hq : (tx s each).2.2 = 0 := by
          rcases Classical.em ((tx s each).2.2 = 0) with h | h
          · exact h
          · exact absurd h hne
        rw [show (mText s 0 each).1 = (tx s each).1 from by simp [mText, hq]] at h
        exact h
      · exact lGo_len each h0 n _ x hx
end Pl

end Go.Proofs.YtbnjhfkmdejeaaaDoor

/- The document's sets: may one be, its bytes, its sum. -/
set_option linter.unusedSimpArgs false
set_option linter.unusedVariables false
namespace Go.Proofs.YtbnjhfkmdejeaaaDoor
open Go.RowKit Pl

theorem drewN_two (w : World) (q n : Nat) : (w.drewN q).drewN n = w.drewN (q + n) := by
  first | exact World.drewN_drewN _ _ _ | simp
theorem leS_nil (z : Bs) : leS [] z = true := by
  cases z <;> simp [leS, Op.bytesLess]
theorem leS_zero (n : Bs) (h : n ≠ []) : leS n [] = false := by
  cases n with
  | nil => exact absurd rfl h
  | cons a r => simp [leS, Op.bytesLess]

set_option maxRecDepth 100000 in
set_option maxHeartbeats 2000000 in
theorem rmcheck_any (v : Value) (l : List (Bs × Int)) (w : World) (hv : MS w v l) :
    Calls Tryd.prog 48 #[v] w fun e w' => e = .returned (.int .i64 (setI (chkM l))) ∧ ∃ n, w' = w.drewN n := by
  generalize hr : setI (chkM l) = r
  have HR := Lib.hid hr
  clear hr
  obtain ⟨a, c, rfl⟩ := hv.form
  have hm := hv.small
  have HV := Lib.hid hv
  by_cases h0 : l.length = 0
  · rw [h0]
    clear HV hv
    go_enter Tryd.func48, Tryd.ntmps48
    go_wp2_with fail
    all_goals (go_ret; refine ⟨?_, 0, rfl⟩; rw [← HR.out]; simp [chkM, h0, setI])
  · by_cases h7 : 7 < l.length
    · have hd : decide ((7 : Int) < (l.length : Int)) = true := by simp; omega
      have hd0 : decide ((l.length : Int) < 1) = false := by simp; omega
      clear HV hv
      go_enter Tryd.func48, Tryd.ntmps48
      go_wp2_with fail
      all_goals (go_ret; refine ⟨?_, 0, rfl⟩; rw [← HR.out]; have : ¬ l.length ≤ 7 := (by omega); simp [chkM, this, setI])
    · have hd : decide ((7 : Int) < (l.length : Int)) = false := by simp; omega
      have hd0 : decide ((l.length : Int) < 1) = false := by simp; omega
      have HR2 : Hid (setI (okM [] l) = r) := Lib.hid (by rw [← HR.out]; have : l.length ≤ 7 := (by omega); simp [chkM, this, h0])
      clear HR hv h0
      go_enter Tryd.func48, Tryd.ntmps48
      go_wp2_with fail
      go_loopw [3] (fun s3 wr => ∃ i : Nat, i ≤ l.length ∧ s3 = .int .i64 i ∧ Hid (setI (okM (lastN l i) (l.drop i)) = r) ∧ ∃ q, wr = w.drewN q) (fun s3 _ => l.length - (intOf s3).toNat)
      case atStart => exact ⟨0, by omega, rfl, HR2, 0, rfl⟩
      case round =>
        obtain ⟨i, hi, rfl, HI, q, rfl⟩ := hrel
        by_cases hlt : i < l.length
        · have hlt' : (i : Int) < (l.length : Int) := by omega
          obtain ⟨g, off, rfl, hg, c1, c2⟩ := HV.out.at i hlt
          have hi2 := HI.out
          rw [drop_getD l i hlt] at hi2
          have hnx : lastN l (i + 1) = (l.getD i ([], 0)).1 := rfl
          generalize hx : l.getD i ([], 0) = x at *
          obtain ⟨n, p⟩ := x
          simp only at c1 c2 hnx
          unfold okM at hi2
          by_cases hne : n = []
          · subst hne
            rw [leS_nil] at hi2
            have HI2 : Hid (50 = r) := Lib.hid (by rw [← hi2]; simp [setI])
            clear HI hi2 HR2
            go_wp2_with fail
            all_goals (go_ret; refine ⟨?_, q, rfl⟩; rw [← HI2.out]; rfl)
          · have hn1 : 0 < n.length := List.length_pos_iff.2 hne
            have hn2 : decide ((n.length : Int) < 1) = false := by simp; omega
            have hn3 : ¬ ((n.length : Int) < 1) := by omega
            cases hb : decide ((6 : Int) < (n.length : Int)) || decide (p < 1) || decide (1000 < p)
            · simp only [Bool.or_eq_false_iff] at hb
              obtain ⟨⟨e1, e2⟩, e3⟩ := hb
              rw [e1, e2, e3] at hi2
              by_cases hi0 : i = 0
              · subst hi0
                have hz : lastN l 0 = [] := rfl
                rw [hz, leS_zero n hne] at hi2
                have HI2 : Hid (setI (okM n (l.drop 1)) = r) := Lib.hid (by rw [← hi2]; simp)
                clear HI hi2 HR2 hz
                rw [Nat.zero_mul, Nat.add_zero] at c1 c2
                go_wp2_with fail
                go_quiet (fail)
                go_wp2_with fail
                exact ⟨⟨1, by omega, by go_num, by rw [hnx]; exact HI2, _, rfl⟩, by simp [intOf]; omega⟩
              · obtain ⟨j, hj⟩ : ∃ j, i = j + 1 := ⟨i - 1, by omega⟩
                obtain ⟨g', off', hgo, hg', c3, c4⟩ := HV.out.at j (by omega)
                injection hgo with hgo
                injection hgo with hgo1 hgo2
                subst hgo1 hgo2
                have hz : lastN l i = (l.getD j ([], 0)).1 := by rw [hj]; rfl
                rw [← hz] at c3
                have q1 : IntKind.i64.wrap ((i : Int) - 1) = (j : Int) := by rw [show (i : Int) - 1 = (j : Int) from by omega]; exact IntWalk.i64_in _ (by omega)
                have q2 : (j : Int) < (l.length : Int) := by omega
                have q3 : decide ((0 : Int) < (i : Int)) = true := by rw [decide_eq_true_iff]; omega
                have q4 : (0 : Int) < (i : Int) := by omega
                have q5 : 0 < i := by omega
                have q6 : ¬ i = 0 := hi0
                generalize lastN l i = z at *
                clear c4 HI HR2 hj hz
                cases hle : leS n z
                · rw [hle] at hi2
                  have HI2 : Hid (setI (okM n (l.drop (i + 1))) = r) := Lib.hid (by rw [← hi2]; simp)
                  clear hi2
                  go_wp2_with fail
                  go_quiet (fail)
                  go_wp2_with fail
                  exact ⟨⟨i + 1, by omega, by go_num, by rw [hnx]; exact HI2, _, rfl⟩, by simp [intOf]; omega⟩
                · rw [hle] at hi2
                  have HI2 : Hid (50 = r) := Lib.hid (by rw [← hi2]; simp [setI])
                  clear hi2
                  go_wp2_with fail
                  go_quiet (fail)
                  go_wp2_with fail
                  all_goals (go_ret; refine ⟨?_, _, drewN_two _ _ _⟩; rw [← HI2.out]; rfl)
            · have HI2 : Hid (50 = r) := Lib.hid (by
                rw [← hi2]
                simp only [Bool.or_eq_true] at hb
                rcases hb with (hb | hb) | hb <;> rw [hb] <;> simp [setI])
              clear hi2 HI HR2
              go_wp2_with fail
              all_goals (go_ret; refine ⟨?_, _, rfl⟩; rw [← HI2.out]; rfl)
        · obtain rfl : i = l.length := by omega
          go_wp2_with fail
          all_goals (go_ret; refine ⟨?_, q, rfl⟩; rw [← HI.out]; simp [okM, setI])



end Go.Proofs.YtbnjhfkmdejeaaaDoor

/- Certificates: may one be (both), as bytes (both). -/
set_option linter.unusedSimpArgs false
set_option linter.unusedVariables false
namespace Go.Proofs.YtbnjhfkmdejeaaaDoor
open Go.RowKit Pl

namespace Pl
/-- May the signers be, behind one of this name? -/
def okS : Bs → List Bs → Bool
  | _, [] => true
  | z, n :: r => !(leS n z || decide ((6 : Int) < (n.length : Int))) && okS n r
def mayC (d : Bs) (l : List Bs) : Bool := decide (d.length = 32) && decide (l.length ≤ 7) && okS [] l
/-- The one ahead. -/
def lastS (l : List Bs) : Nat → Bs
  | 0 => []
  | i + 1 => l.getD i []
theorem dropS (l : List Bs) (i : Nat) (hi : i < l.length) : l.drop i = l.getD i [] :: l.drop (i + 1) := by
  rw [List.drop_eq_getElem_cons hi, List.getD_eq_getElem?_getD, List.getElem?_eq_getElem hi]
  rfl
end Pl

/-- v reads as the certificate of this digest and these signers. -/
def CV (w : World) (v : Value) (d : Bs) (l : List Bs) : Prop := ∃ u, v = .agg #[.string ⟨List.toArray (d)⟩, u] ∧ SS w u l
theorem CV.keep {W w : World} {v : Value} {d : Bs} {l : List Bs} (h : CV W v d l) (hb : Below W.heap.size W w) : CV w v d l := by
  obtain ⟨u, h1, h2⟩ := h
  exact ⟨u, h1, h2.keep hb⟩

set_option maxRecDepth 100000 in
set_option maxHeartbeats 400000 in
theorem cmay_any (v : Value) (d : Bs) (l : List Bs) (w : World) (hv : CV w v d l) :
    Calls Tryd.prog 46 #[v] w fun e w' => e = .returned (.bool (mayC d l)) ∧ Below w.heap.size w w' := by
  generalize hr : mayC d l = r
  have HR := Lib.hid hr
  clear hr
  obtain ⟨u, rfl, hu⟩ := hv
  obtain ⟨a, c, rfl⟩ := hu.form
  have hm := hu.small
  have HV := Lib.hid hu
  clear hu
  by_cases hd : d.length = 32
  · have hd1 : ((d.length : Int) != 32) = false := by simp; omega
    by_cases h7 : 7 < l.length
    · have hd2 : decide ((7 : Int) < (l.length : Int)) = true := by simp; omega
      have HD := Lib.hid hd
      clear hd
      go_enter Tryd.func46, Tryd.ntmps46
      go_wp2_with fail
      all_goals (go_ret; refine ⟨?_, Below.allocS (Below.refl _ _) _⟩; rw [← HR.out]; have : ¬ l.length ≤ 7 := (by omega); simp [mayC, this])
    · have hd2 : decide ((7 : Int) < (l.length : Int)) = false := by simp; omega
      have HR2 : Hid (okS [] l = r) := Lib.hid (by rw [← HR.out]; have : l.length ≤ 7 := (by omega); simp [mayC, this, hd])
      have HD := Lib.hid hd
      clear hd HR
      go_enter Tryd.func46, Tryd.ntmps46
      go_wp2_with fail
      go_loopw [3, 19] (fun s3 s19 wr => ∃ i : Nat, i ≤ l.length ∧ s19 = .int .i64 i ∧ s3 = .string ⟨List.toArray (lastS l i)⟩ ∧ Hid (okS (lastS l i) (l.drop i) = r) ∧ Below w.heap.size w wr) (fun _ s19 _ => l.length - (intOf s19).toNat)
      case atStart => exact ⟨0, by omega, rfl, rfl, HR2, Below.allocS (Below.refl _ _) _⟩
      case round =>
        obtain ⟨i, hi, rfl, rfl, HI, hb⟩ := hrel
        obtain ⟨wq, h⟩ := Below.nm hb
        subst h
        by_cases hlt : i < l.length
        · obtain ⟨g, off, rfl, c1⟩ := (HV.out.keep hb).at i hlt
          have hi2 := HI.out
          rw [dropS l i hlt] at hi2
          have hnx : lastS l (i + 1) = l.getD i [] := rfl
          generalize hx : l.getD i [] = x at *
          unfold okS at hi2
          generalize lastS l i = z at *
          cases hle : leS x z
          · by_cases h6 : (6 : Int) < (x.length : Int)
            · have HI2 : Hid (false = r) := Lib.hid (by rw [← hi2, hle]; simp [h6])
              clear HI hi2
              go_wp2_with fail
              all_goals (go_ret; refine ⟨?_, hb⟩; rw [← HI2.out]; rfl)
            · have HI2 : Hid (okS x (l.drop (i + 1)) = r) := Lib.hid (by rw [← hi2, hle]; simp [h6])
              clear HI hi2
              go_wp2_with fail
              exact ⟨⟨i + 1, by omega, by go_num, by rw [hnx], by rw [hnx]; exact HI2, hb⟩, by simp [intOf]; omega⟩
          · have HI2 : Hid (false = r) := Lib.hid (by rw [← hi2, hle]; simp)
            clear HI hi2
            go_wp2_with fail
            all_goals (go_ret; refine ⟨?_, hb⟩; rw [← HI2.out]; rfl)
        · obtain rfl : i = l.length := by omega
          go_wp2_with fail
          all_goals (go_ret; refine ⟨?_, hb⟩; rw [← HI.out]; simp [okS])
  · have hd1 : ((d.length : Int) != 32) = true := by simp; omega
    have HD := Lib.hid hd
    clear hd
    go_enter Tryd.func46, Tryd.ntmps46
    go_wp2_with fail
    all_goals (go_ret; refine ⟨?_, Below.allocS (Below.refl _ _) _⟩; rw [← HR.out]; simp [mayC, HD.out])


set_option maxRecDepth 100000 in
set_option maxHeartbeats 600000 in
theorem rmay_any (v : Value) (d : Bs) (l : List Bs) (w : World) (hv : CV w v d l) :
    Calls Tryd.prog 49 #[v] w fun e w' => e = .returned (.bool (mayC d l)) ∧ Below w.heap.size w w' := by
  generalize hr : mayC d l = r
  have HR := Lib.hid hr
  clear hr
  obtain ⟨u, rfl, hu⟩ := hv
  obtain ⟨a, c, rfl⟩ := hu.form
  have hm := hu.small
  have HV := Lib.hid hu
  clear hu
  by_cases hd : d.length = 32
  · have hd1 : ((d.length : Int) != 32) = false := by simp; omega
    by_cases h7 : 7 < l.length
    · have hd2 : decide ((7 : Int) < (l.length : Int)) = true := by simp; omega
      have HD := Lib.hid hd
      clear hd
      go_enter Tryd.func49, Tryd.ntmps49
      go_wp2_with fail
      all_goals (go_ret; refine ⟨?_, Below.allocS (Below.refl _ _) _⟩; rw [← HR.out]; have : ¬ l.length ≤ 7 := (by omega); simp [mayC, this])
    · have hd2 : decide ((7 : Int) < (l.length : Int)) = false := by simp; omega
      have HR2 : Hid (okS [] l = r) := Lib.hid (by rw [← HR.out]; have : l.length ≤ 7 := (by omega); simp [mayC, this, hd])
      have HD := Lib.hid hd
      clear hd HR
      go_enter Tryd.func49, Tryd.ntmps49
      go_wp2_with fail
      go_loopw [3] (fun s3 wr => ∃ i : Nat, i ≤ l.length ∧ s3 = .int .i64 i ∧ Hid (okS (lastS l i) (l.drop i) = r) ∧ Blk wr w.heap.size #[.string ⟨List.toArray (d)⟩, .slice a l.length c] ∧ Below w.heap.size w wr) (fun s3 _ => l.length - (intOf s3).toNat)
      case atStart => exact ⟨0, by omega, rfl, HR2, Blk.new _ _ _, Below.allocS (Below.refl _ _) _⟩
      case round =>
        obtain ⟨i, hi, rfl, HI, B, hb⟩ := hrel
        obtain ⟨wq, h⟩ := Below.nm hb
        subst h
        obtain ⟨b1, b2, b3⟩ := id B
        by_cases hlt : i < l.length
        · have hlt' : (i : Int) < (l.length : Int) := by omega
          have V := HV.out.keep hb
          obtain ⟨g, off, rfl, c1⟩ := V.at i hlt
          have hi2 := HI.out
          rw [dropS l i hlt] at hi2
          have hnx : lastS l (i + 1) = l.getD i [] := rfl
          generalize hx : l.getD i [] = x at *
          unfold okS at hi2
          by_cases hne : x = []
          · subst hne
            rw [leS_nil] at hi2
            have HI2 : Hid (false = r) := Lib.hid (by rw [← hi2]; simp)
            clear HI hi2 HR2 V
            go_wp2_with fail
            go_quiet (fail)
            go_wp2_with fail
            all_goals (go_ret; refine ⟨?_, below_drewN hb _⟩; rw [← HI2.out]; rfl)
          · have hn1 : 0 < x.length := List.length_pos_iff.2 hne
            have hn2 : decide ((x.length : Int) < 1) = false := by simp; omega
            have hn3 : ¬ ((x.length : Int) < 1) := by omega
            by_cases h6 : (6 : Int) < (x.length : Int)
            · have HI2 : Hid (false = r) := Lib.hid (by rw [← hi2]; simp [h6])
              clear HI hi2 HR2 V
              go_wp2_with fail
              go_quiet (fail)
              go_wp2_with fail
              all_goals (go_ret; refine ⟨?_, below_drewN hb _⟩; rw [← HI2.out]; rfl)
            · have h6d : decide ((6 : Int) < (x.length : Int)) = false := by simpa using h6
              by_cases hi0 : i = 0
              · subst hi0
                have hz : lastS l 0 = [] := rfl
                rw [hz, leS_zero x hne] at hi2
                have HI2 : Hid (okS x (l.drop 1) = r) := Lib.hid (by rw [← hi2]; simp [h6])
                clear HI hi2 HR2 hz V
                rw [Nat.add_zero] at c1
                go_wp2_with fail
                go_quiet (fail)
                go_wp2_with fail
                exact ⟨⟨1, by omega, by go_num, by rw [hnx]; exact HI2, B.drewN _, below_drewN hb _⟩, by simp [intOf]; omega⟩
              · obtain ⟨j, hj⟩ : ∃ j, i = j + 1 := ⟨i - 1, by omega⟩
                obtain ⟨g', off', hgo, c3⟩ := V.at j (by omega)
                injection hgo with hgo
                injection hgo with hgo1 hgo2
                subst hgo1 hgo2
                have hz : lastS l i = l.getD j [] := by rw [hj]; rfl
                rw [← hz] at c3
                have q1 : IntKind.i64.wrap ((i : Int) - 1) = (j : Int) := by rw [show (i : Int) - 1 = (j : Int) from by omega]; exact IntWalk.i64_in _ (by omega)
                have q2 : (j : Int) < (l.length : Int) := by omega
                have q3 : decide ((0 : Int) < (i : Int)) = true := by rw [decide_eq_true_iff]; omega
                have q4 : (0 : Int) < (i : Int) := by omega
                have q5 : 0 < i := by omega
                have q6 : ¬ i = 0 := hi0
                generalize lastS l i = z at *
                clear HI HR2 hj hz V
                cases hle : leS x z
                · rw [hle] at hi2
                  have HI2 : Hid (okS x (l.drop (i + 1)) = r) := Lib.hid (by rw [← hi2]; simp [h6])
                  clear hi2
                  go_wp2_with fail
                  go_quiet (fail)
                  go_wp2_with fail
                  exact ⟨⟨i + 1, by omega, by go_num, by rw [hnx]; exact HI2, B.drewN _, below_drewN hb _⟩, by simp [intOf]; omega⟩
                · rw [hle] at hi2
                  have HI2 : Hid (false = r) := Lib.hid (by rw [← hi2]; simp)
                  clear hi2
                  go_wp2_with fail
                  go_quiet (fail)
                  go_wp2_with fail
                  all_goals (go_ret; refine ⟨?_, below_drewN hb _⟩; rw [← HI2.out]; rfl)
        · obtain rfl : i = l.length := by omega
          have hlt' : ¬ (l.length : Int) < (l.length : Int) := by omega
          go_wp2_with fail
          all_goals (go_ret; refine ⟨?_, hb⟩; rw [← HI.out]; simp [okS])
  · have hd1 : ((d.length : Int) != 32) = true := by simp; omega
    have HD := Lib.hid hd
    clear hd
    go_enter Tryd.func49, Tryd.ntmps49
    go_wp2_with fail
    all_goals (go_ret; refine ⟨?_, Below.allocS (Below.refl _ _) _⟩; rw [← HR.out]; simp [mayC, HD.out])
end Go.Proofs.YtbnjhfkmdejeaaaDoor

/- Certificates as bytes, and again: the program's and the document's. -/
set_option linter.unusedSimpArgs false
set_option linter.unusedVariables false
namespace Go.Proofs.YtbnjhfkmdejeaaaDoor
open Go.RowKit Pl

namespace Pl
def encC (d : Bs) (l : List Bs) : Bs := d ++ encS l
def encCR (d : Bs) (l : List Bs) : Bs × Int := if mayC d l then (encC d l, 0) else ([], 3)
/-- The certificate of bytes. -/
def decC (s : Bs) : (Bs × List Bs) × Int :=
  let b := mBytes s 0 32
  let L := mList b.2.1 b.2.2 7 6
  if mEnd L.2.1 L.2.2 = 0 ∧ mayC b.1 L.1 = true then ((b.1, L.1), 0) else (([], []), 3)
theorem okS_len : ∀ (l : List Bs) (z : Bs), okS z l = true → ∀ i, i < l.length → (l.getD i []).length ≤ 6
  | n :: r, z, h, i, hi => by
    simp only [okS, Bool.and_eq_true, Bool.not_eq_true', Bool.or_eq_false_iff, decide_eq_false_iff_not] at h
    obtain ⟨⟨h1, h2⟩, h5⟩ := h
    match i with
    | 0 => simp; omega
    | j + 1 => exact okS_len r n h5 j (by simpa using hi)
theorem mayC_parts {d : Bs} {l : List Bs} (h : mayC d l = true) : d.length = 32 ∧ l.length ≤ 7 ∧ okS [] l = true ∧ ∀ i, i < l.length → (l.getD i []).length ≤ 6 := by
  simp only [mayC, Bool.and_eq_true, decide_eq_true_eq] at h
  exact ⟨h.1.1, h.1.2, h.2, okS_len l [] h.2⟩
theorem encS_len (l : List Bs) (h7 : l.length ≤ 7) (h : ∀ i, i < l.length → (l.getD i []).length ≤ 6) : (encS l).length ≤ 200 := by
  have h1 := listB_len l 6 h l.length (Nat.le_refl _)
  rw [List.take_length] at h1
  have hn9 := num_len l.length
  simp only [encS, List.length_append]
  omega
end Pl

theorem rowC : RowT Tryd.prog 28 2 := RowT.mk' Tryd.underlying28 rfl (by kernel_rfl)
theorem results_ct {P : Program} {fn : Func} {a b : Nat} {t : TypeId} (h : fn.results = #[.cell a t, .tmp b]) (tmps : Array Value) (w : World) (p : Addr) (v : Value) (hp : tmps.getD a undef = .pointer (some p)) (hl : (loadVar t p).run P w = .ok v w) :
    (results fn tmps).run P w = .ok (.tuple #[v, tmps.getD b undef]) w := by
  unfold results
  rw [h]
  rw [Array.getD_eq_getD_getElem?] at hp
  simp [hp, asAddr, hl, Sem.run_bind]
theorem rowC_load {w : World} {b : Nat} {x y : Value} (hB : Blk w b #[x, y]) : (loadVar 28 ⟨b, 0, none⟩).run Tryd.prog w = .ok (.agg #[x, y]) w :=
  row_loadVar rowC w (vs := [x, y]) rfl hB



namespace Pl
theorem decC_short (s : Bs) (h : s.length < 32) : decC s = (([], []), 3) := by
  have hb : mBytes s 0 32 = ([], s, 20) := by unfold mBytes; rw [if_neg (by simp), if_neg (by omega), if_pos (by omega)]
  have he : ¬ mEnd s 20 = 0 := by unfold mEnd; rw [if_neg (by simp)]; simp
  unfold decC
  rw [hb]
  simp only [mList_c s 20 7 6 (by simp)]
  rw [if_neg (fun h => he h.1)]
theorem decC_long (s : Bs) (h : ¬ s.length < 32) : decC s = if mEnd (mList (s.drop 32) 0 7 6).2.1 (mList (s.drop 32) 0 7 6).2.2 = 0 ∧ mayC (s.take 32) (mList (s.drop 32) 0 7 6).1 = true then ((s.take 32, (mList (s.drop 32) 0 7 6).1), 0) else (([], []), 3) := by
  have hb : mBytes s 0 32 = (s.take 32, s.drop 32, 0) := by unfold mBytes; rw [if_neg (by simp), if_neg (by omega), if_neg (by omega)]; rfl
  unfold decC
  rw [hb]
end Pl


set_option maxRecDepth 100000 in
set_option maxHeartbeats 400000 in
theorem samecert_any (u v : Value) (d e : Bs) (l m : List Bs) (w : World) (hu : CV w u d l) (hv : CV w v e m) :
    Calls Tryd.prog 20 #[u, v] w fun x w' => x = .returned (.bool (d == e && sameL l m)) ∧ Below w.heap.size w w' := by
  obtain ⟨u, rfl, hu⟩ := hu
  obtain ⟨v, rfl, hv⟩ := hv
  obtain ⟨a, c, rfl⟩ := hu.form
  obtain ⟨a2, c2, rfl⟩ := hv.form
  have hb0 : Below w.heap.size w ((w.alloc (.cells #[.string ⟨List.toArray (d)⟩, .slice a l.length c] 28)).alloc (.cells #[.string ⟨List.toArray (e)⟩, .slice a2 m.length c2] 28)) := Below.allocS (Below.allocS (Below.refl _ _) _) _
  have hU := hu.keep hb0
  have hV := hv.keep hb0
  generalize hde : (d == e) = de
  have hde2 : decide (d = e) = de := by rw [← hde]; by_cases h : d = e <;> simp [h]
  cases de
  · go_enter Tryd.func20, Tryd.ntmps20
    go_wp2_with fail
    all_goals (go_ret; exact ⟨rfl, hb0⟩)
  · clear hu hv
    have hs := sametexts_any _ _ l m _ hU hV
    generalize sameL l m = q at *
    have HS := Lib.hid hs
    clear hs
    cases q
    all_goals
      go_enter Tryd.func20, Tryd.ntmps20
      go_wp2_with fail
      refine HS.out.mono ?_
      rintro x w1 ⟨rfl, n, rfl⟩
      go_wp2_with fail
      all_goals (go_ret; exact ⟨rfl, below_drewN hb0 _⟩)
end Go.Proofs.YtbnjhfkmdejeaaaDoor
