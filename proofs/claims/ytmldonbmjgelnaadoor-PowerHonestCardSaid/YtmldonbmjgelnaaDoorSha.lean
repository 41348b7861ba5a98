/- Walks of layer 3: turned words, the words of a block. -/
import Derived.Test.YtmldonbmjgelnaaDoorShaP
import Derived.Test.YtmldonbmjgelnaaDoorKit2
import Derived.Test.YtmldonbmjgelnaaDoorChecked
import Derived.Deep.MidRow
set_option linter.unusedSimpArgs false
set_option linter.unusedVariables false
namespace Go.Proofs.YtmldonbmjgelnaaDoor
open Go.RowKit

set_option maxHeartbeats 400000 in
theorem rot_any (x : Int) (n : Int) (hx : 0 ≤ x) (hx2 : x < 4294967296) (hn : 0 ≤ n) (hn2 : n ≤ 32) (w : World) :
    Calls Tryd.prog 144 #[.int .u32 x, .int .u64 n] w fun e w' => e = .returned (.int .u32 (rotI x n)) ∧ w = w' := by
  go_enter Tryd.func144, Tryd.ntmps144
  go_wp2_with fail
  go_ret
  exact ⟨rfl, rfl⟩
set_option maxHeartbeats 400000 in
theorem turned_any (x : Int) (n : Int) (hx : 0 ≤ x) (hx2 : x < 4294967296) (hn : 0 ≤ n) (hn2 : n ≤ 32) (w : World) :
    Calls Tryd.prog 134 #[.int .u32 x, .int .i64 n] w fun e w' => e = .returned (.int .u32 (rotI x n)) ∧ w = w' := by
  go_enter Tryd.func134, Tryd.ntmps134
  go_wp2_with fail
  go_ret
  exact ⟨rfl, rfl⟩

theorem rot_st (x : Int) (n : Int) (hx : 0 ≤ x) (hx2 : x < 4294967296) (hn : 0 ≤ n) (hn2 : n ≤ 32) (w : World) :
    Calls Tryd.prog 144 #[.int .u32 x, .int .u64 n] w fun e w' => e = .returned (.int .u32 (rotI x n)) ∧ w' = w :=
  (rot_any x n hx hx2 hn hn2 w).mono fun _ _ ⟨h, h2⟩ => ⟨h, h2.symm⟩

theorem row64w : RowT Tryd.prog 155 64 := RowT.mk' Tryd.underlying155 rfl (by kernel_rfl)
theorem row64b : RowT Tryd.prog 129 64 := RowT.mk' Tryd.underlying129 rfl (by kernel_rfl)
theorem row8w : RowT Tryd.prog 127 8 := RowT.mk' Tryd.underlying127 rfl (by kernel_rfl)
theorem row16w : RowT Tryd.prog 145 16 := RowT.mk' Tryd.underlying145 rfl (by kernel_rfl)

theorem zero64w : (arr 64 fun _ => 0).toArray = #[Value.int .u32 0, Value.int .u32 0, Value.int .u32 0, Value.int .u32 0, Value.int .u32 0, Value.int .u32 0, Value.int .u32 0, Value.int .u32 0, Value.int .u32 0, Value.int .u32 0, Value.int .u32 0, Value.int .u32 0, Value.int .u32 0, Value.int .u32 0, Value.int .u32 0, Value.int .u32 0, Value.int .u32 0, Value.int .u32 0, Value.int .u32 0, Value.int .u32 0, Value.int .u32 0, Value.int .u32 0, Value.int .u32 0, Value.int .u32 0, Value.int .u32 0, Value.int .u32 0, Value.int .u32 0, Value.int .u32 0, Value.int .u32 0, Value.int .u32 0, Value.int .u32 0, Value.int .u32 0, Value.int .u32 0, Value.int .u32 0, Value.int .u32 0, Value.int .u32 0, Value.int .u32 0, Value.int .u32 0, Value.int .u32 0, Value.int .u32 0, Value.int .u32 0, Value.int .u32 0, Value.int .u32 0, Value.int .u32 0, Value.int .u32 0, Value.int .u32 0, Value.int .u32 0, Value.int .u32 0, Value.int .u32 0, Value.int .u32 0, Value.int .u32 0, Value.int .u32 0, Value.int .u32 0, Value.int .u32 0, Value.int .u32 0, Value.int .u32 0, Value.int .u32 0, Value.int .u32 0, Value.int .u32 0, Value.int .u32 0, Value.int .u32 0, Value.int .u32 0, Value.int .u32 0, Value.int .u32 0] := rfl
def schTo (b : Nat → Int) (k : Nat) : Nat → Int := fun i => if i < k then sch b i else 0
theorem schTo_succ (b : Nat → Int) (k : Nat) : updI (schTo b k) k (sch b k) = schTo b (k + 1) := by
  funext i
  unfold updI schTo
  by_cases h : i = k
  · subst h; rw [if_pos rfl, if_pos (by omega)]
  · rw [if_neg h]
    by_cases h2 : i < k
    · rw [if_pos h2, if_pos (by omega)]
    · rw [if_neg h2, if_neg (by omega)]

set_option maxRecDepth 100000 in
set_option maxHeartbeats 1000000 in
theorem spread_any (b : Nat → Int) (hb : ∀ i, i < 64 → 0 ≤ b i ∧ b i < 256) (w : World) :
    Calls Tryd.prog 143 #[.agg (arb 64 b).toArray] w fun e w' => e = .returned (.agg (arr 64 (sch b)).toArray) ∧ Below w.heap.size w w' := by
  have HB := Lib.hid hb
  have HSB := Lib.hid (sch_bd b hb)
  clear hb
  go_enter Tryd.func143, Tryd.ntmps143
  go_wp2_with fail
  go_loopw [8] (fun s8 wr => ∃ k : Nat, k ≤ 16 ∧ s8 = .int .i64 k ∧ Blk wr w.heap.size (arb 64 b).toArray ∧ Blk wr (w.heap.size + 1) (arr 64 fun _ => 0).toArray ∧ Blk wr (w.heap.size + 1 + 1) (arr 64 (schTo b k)).toArray ∧ Below w.heap.size w wr) (fun s8 _ => 16 - (intOf s8).toNat)
  case atStart =>
    rw [zero64w]
    exact ⟨0, by omega, rfl, ((Blk.new w _ _).alloc _).alloc _, (Blk.new' (by simp)).alloc _, by rw [show schTo b 0 = fun _ => 0 from by funext i; simp [schTo], zero64w]; exact Blk.new' (by simp), by (repeat (first | exact Below.refl _ _ | assumption | apply Below.drew | apply below_drewN | apply Below.allocS | (refine Below.setCell ?_ (by simp <;> omega) _) | (refine Below.alloc ?_ (by simp <;> omega) _) | (refine Below.trans ?_ (Below.mono (by assumption) (by simp <;> omega)))))⟩
  case round =>
    obtain ⟨k, hk, rfl, B, Z, W, hb⟩ := hrel
    rename_i wr
    by_cases hlt : k < 16
    · have b0 := HB.out (4 * k) (by omega)
      have b1 := HB.out (4 * k + 1) (by omega)
      have b2 := HB.out (4 * k + 2) (by omega)
      have b3 := HB.out (4 * k + 3) (by omega)
      have c0 := B.cell (4 * k)
      rw [arb_at 64 b _ (by omega)] at c0
      have c1 := B.cell (4 * k + 1)
      rw [arb_at 64 b _ (by omega)] at c1
      have c2 := B.cell (4 * k + 2)
      rw [arb_at 64 b _ (by omega)] at c2
      have c3 := B.cell (4 * k + 3)
      rw [arb_at 64 b _ (by omega)] at c3
      have d0 := W.cell k
      rw [arr_at 64 _ _ (by omega)] at d0
      have d1 := W.froz
      have t0 : (4 * (k : Int)).toNat = 4 * k := by omega
      have t1 : (4 * (k : Int) + 1).toNat = 4 * k + 1 := by omega
      have t2 : (4 * (k : Int) + 2).toNat = 4 * k + 2 := by omega
      have t3 : (4 * (k : Int) + 3).toNat = 4 * k + 3 := by omega
      have i0 : IntKind.i64.wrap (4 * (k : Int)) = 4 * (k : Int) := by rw [IntKind.wrap_i64]; omega
      have i1 : IntKind.i64.wrap (4 * (k : Int) + 1) = 4 * (k : Int) + 1 := by rw [IntKind.wrap_i64]; omega
      have i2 : IntKind.i64.wrap (4 * (k : Int) + 2) = 4 * (k : Int) + 2 := by rw [IntKind.wrap_i64]; omega
      have i3 : IntKind.i64.wrap (4 * (k : Int) + 3) = 4 * (k : Int) + 3 := by rw [IntKind.wrap_i64]; omega
      generalize hx0 : b (4 * k) = x0 at *
      generalize hx1 : b (4 * k + 1) = x1 at *
      generalize hx2 : b (4 * k + 2) = x2 at *
      generalize hx3 : b (4 * k + 3) = x3 at *
      have HX0 := Lib.hid hx0
      have HX1 := Lib.hid hx1
      have HX2 := Lib.hid hx2
      have HX3 := Lib.hid hx3
      clear hx0 hx1 hx2 hx3
      go_wp2_with fail
      go_region
      go_wp2_with fail
      have hw4 : bits .or .u32 (bits .or .u32 (bits .or .u32 (x0 * 16777216) (x1 * 65536)) (x2 * 256)) x3 = sch b k := by
        rw [or4 x0 x1 x2 x3 (by omega) (by omega) (by omega) (by omega), sch, dif_pos hlt, word4, HX0.out, HX1.out, HX2.out, HX3.out]
      have W1 := (W.set k (.int .u32 (sch b k))).drew
      rw [arr_set, schTo_succ] at W1
      rw [hw4]
      exact ⟨⟨k + 1, by omega, by go_num, (B.other (by simp <;> omega) _).drew, (Z.other (by simp <;> omega) _).drew, W1, (hb.setCell (by simp <;> omega) _).drew⟩, by simp [intOf]; omega⟩
    · have hke : k = 16 := by omega
      subst hke
      rw [show ((16 : Nat) : Int) = 16 from rfl]
      go_wp2_with fail
      go_loopw [5] (fun s5 wr => ∃ k : Nat, 16 ≤ k ∧ k ≤ 64 ∧ s5 = .int .i64 k ∧ Blk wr (w.heap.size + 1) (arr 64 fun _ => 0).toArray ∧ Blk wr (w.heap.size + 1 + 1) (arr 64 (schTo b k)).toArray ∧ Below w.heap.size w wr) (fun s5 _ => 64 - (intOf s5).toNat)
      case atStart => exact ⟨16, by omega, by omega, rfl, Z, W, hb⟩
      case round =>
        clear Z W hb B
        obtain ⟨k, hk0, hk, rfl, Z, W, hb⟩ := hrel
        rename_i wq
        by_cases hlt : k < 64
        · have f0 : schTo b k (k - 16) = sch b (k - 16) := if_pos (by omega)
          have f1 : schTo b k (k - 15) = sch b (k - 15) := if_pos (by omega)
          have f2 : schTo b k (k - 7) = sch b (k - 7) := if_pos (by omega)
          have f3 : schTo b k (k - 2) = sch b (k - 2) := if_pos (by omega)
          have c0 := W.cell (k - 16)
          rw [arr_at 64 _ _ (by omega), f0] at c0
          have c1 := W.cell (k - 15)
          rw [arr_at 64 _ _ (by omega), f1] at c1
          have c2 := W.cell (k - 7)
          rw [arr_at 64 _ _ (by omega), f2] at c2
          have c3 := W.cell (k - 2)
          rw [arr_at 64 _ _ (by omega), f3] at c3
          have d0 := W.cell k
          rw [arr_at 64 _ _ (by omega)] at d0
          have d1 := W.froz
          have HS : Hid (sch b k = (sch b (k - 16) + sg0 (sch b (k - 15)) + sch b (k - 7) + sg1 (sch b (k - 2))) % 4294967296) := Lib.hid (by rw [sch, dif_neg (by omega)])
          obtain ⟨p0, p0'⟩ := HSB.out (k - 16)
          obtain ⟨p1, p1'⟩ := HSB.out (k - 15)
          obtain ⟨p2, p2'⟩ := HSB.out (k - 7)
          obtain ⟨p3, p3'⟩ := HSB.out (k - 2)
          have t0 : ((k : Int) - 16).toNat = k - 16 := by omega
          have t1 : ((k : Int) - 15).toNat = k - 15 := by omega
          have t2 : ((k : Int) - 7).toNat = k - 7 := by omega
          have t3 : ((k : Int) - 2).toNat = k - 2 := by omega
          have i0 : IntKind.i64.wrap ((k : Int) - 16) = (k : Int) - 16 := by rw [IntKind.wrap_i64]; omega
          have i1 : IntKind.i64.wrap ((k : Int) - 15) = (k : Int) - 15 := by rw [IntKind.wrap_i64]; omega
          have i2 : IntKind.i64.wrap ((k : Int) - 7) = (k : Int) - 7 := by rw [IntKind.wrap_i64]; omega
          have i3 : IntKind.i64.wrap ((k : Int) - 2) = (k : Int) - 2 := by rw [IntKind.wrap_i64]; omega
          have G0 := Lib.hid f0
          have G2 := Lib.hid f2
          clear f0 f1 f2 f3
          generalize sch b (k - 16) = x0 at *
          generalize sch b (k - 15) = x1 at *
          generalize sch b (k - 7) = x2 at *
          generalize sch b (k - 2) = x3 at *
          go_wp2_with fail
          go_quiet (fail)
          go_wp2_with fail
          refine wp_tail 29 (by kernel_rfl) (by kernel_rfl) ?_
          intro w2 hw2
          have W2 : Blk w2 (w.heap.size + 1 + 1) (arr 64 (schTo b k)).toArray := by rw [hw2]; exact (W.drewN _).drew
          have Z2 : Blk w2 (w.heap.size + 1) (arr 64 fun _ => 0).toArray := by rw [hw2]; exact (Z.drewN _).drew
          have hb2 : Below w.heap.size w w2 := by rw [hw2]; exact (below_drewN hb _).drew
          clear hw2 W Z hb c0 c1 c2 c3 d0 d1
          have c0 := W2.cell (k - 16)
          rw [arr_at 64 _ _ (by omega), G0.out] at c0
          have c2 := W2.cell (k - 7)
          rw [arr_at 64 _ _ (by omega), G2.out] at c2
          have d0 := W2.cell k
          rw [arr_at 64 _ _ (by omega)] at d0
          have d1 := W2.froz
          simp only [List.take_succ_cons, List.take_zero, List.drop_succ_cons, List.drop_zero]
          have q0 : (16 : Int) ≤ (k : Int) := by omega
          have q1 : (k : Int) - 16 < 64 := by omega
          have q2 : (7 : Int) ≤ (k : Int) := by omega
          have q3 : (k : Int) - 7 < 64 := by omega
          have q4 : (k : Int) < 64 := by omega
          repeat (first | still_step | still_call (rot_st _ _ (by omega) (by omega) (by omega) (by omega) _))
          refine wpStill_nil ?_
          go_wp2_with fail
          have W3 := W2.set k (.int .u32 (sch b k))
          rw [arr_set, schTo_succ] at W3
          rw [HS.out] at W3
          exact ⟨⟨k + 1, by omega, by omega, by go_num, Z2.other (by simp <;> omega) _, W3, hb2.setCell (by simp <;> omega) _⟩, by simp [intOf]; omega⟩
        · have hke : k = 64 := by omega
          subst hke
          have hse : arr 64 (schTo b 64) = arr 64 (sch b) := arr_ext (fun i hi => if_pos hi)
          rw [hse] at W
          rw [zero64w] at Z
          go_wp2_with (first
            | (refine wpList_rowLoad row64w rfl (.tmp 3) rfl rfl (arr_len 64 _) W ?_)
            | (refine wpList_rowStore row64w rfl rfl (.tmp 2) (.tmp 84) rfl rfl rfl (arr_len 64 _) (arr_one 64 _) (by simp) Z ?_; intro w3 Z3 m3))
          refine bodyPost_ret (results_cell1 rfl _ _ _ _ rfl (row_loadVar row64w _ (arr_len 64 _) Z3)) rfl ?_
          exact ⟨rfl, Below.mod hb m3 (by have := hb.size; omega) (by simp)⟩
end Go.Proofs.YtmldonbmjgelnaaDoor
