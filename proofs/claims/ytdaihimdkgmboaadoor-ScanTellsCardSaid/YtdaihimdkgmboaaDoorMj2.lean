/- ScTells. -/
import Derived.Test.YtdaihimdkgmboaaDoorMg12
import Derived.Test.YtdaihimdkgmboaaDoorMh1
import Derived.Test.YtdaihimdkgmboaaDoorMg13
import Derived.Test.YtdaihimdkgmboaaDoorMj1
set_option linter.unnecessarySimpa false

/- The scan's answers are the document's: the walk of ScanTells. -/
set_option linter.unusedSimpArgs false
set_option linter.unusedVariables false
namespace Go.Proofs.YtdaihimdkgmboaaDoor
open Go.RowKit Pl

set_option maxRecDepth 100000 in
set_option maxHeartbeats 2000000 in
theorem range_no (pt : Nat) (f e : Bs) (mo : Int) (h : mo < 1 ∨ 16 < mo) (w : World) :
    Calls Tryd.prog 13 #[.pointer (some ⟨pt, 0, none⟩), .string ⟨List.toArray (f)⟩, .string ⟨List.toArray (e)⟩, .int .i64 (mo)] w fun e' w' => e' = .returned (.tuple #[.slice none 0 0, .string ⟨List.toArray ([])⟩, .int .i64 (1)]) ∧ Below w.heap.size w w' := by
  have hb0 : Below w.heap.size w ((((w.alloc (.cells #[.int .i64 (mo)] 3)).alloc (.cells #[.slice none 0 0] 25)).alloc (.cells #[.string ⟨List.toArray ([])⟩] 9)).alloc (.cells #[.int .i64 (1)] 27)) := Below.allocS (Below.allocS (Below.allocS (Below.allocS (Below.refl _ _) _) _) _) _
  have B1 := ((Blk.new (w.alloc (.cells #[.int .i64 (mo)] 3)) #[.slice none 0 0] 25).alloc (.cells #[.string ⟨List.toArray ([])⟩] 9)).alloc (.cells #[.int .i64 (1)] 27)
  rw [World.size_alloc] at B1
  have B2 := (Blk.new ((w.alloc (.cells #[.int .i64 (mo)] 3)).alloc (.cells #[.slice none 0 0] 25)) #[.string ⟨List.toArray ([])⟩] 9).alloc (.cells #[.int .i64 (1)] 27)
  rw [World.size_alloc, World.size_alloc] at B2
  have B3 := Blk.new (((w.alloc (.cells #[.int .i64 (mo)] 3)).alloc (.cells #[.slice none 0 0] 25)).alloc (.cells #[.string ⟨List.toArray ([])⟩] 9)) #[.int .i64 (1)] 27
  rw [World.size_alloc, World.size_alloc, World.size_alloc] at B3
  have HB0 := Lib.hid hb0
  have H1 := Lib.hid (B1.cell 0)
  have H2 := Lib.hid (B2.cell 0)
  have H3 := Lib.hid (B3.cell 0)
  clear hb0 B1 B2 B3
  by_cases h1 : mo < 1
  · have d1 : decide (mo < 1) = true := by simpa using h1
    clear h h1
    go_enter Tryd.func13, Tryd.ntmps13
    go_wp2_with fail
    have c1 := H1.out
    have c2 := H2.out
    have c3 := H3.out
    exact bodyPost_ret (v := .tuple #[.slice none 0 0, .string ⟨List.toArray ([])⟩, .int .i64 (1)]) (by simp [results, Tryd.f13, go_sem, c1, c2, c3]) rfl ⟨rfl, HB0.out⟩
  · have d1 : decide (mo < 1) = false := by simpa using h1
    have d2 : decide ((16 : Int) < mo) = true := by simp only [decide_eq_true_eq]; omega
    clear h h1
    go_enter Tryd.func13, Tryd.ntmps13
    go_wp2_with fail
    have c1 := H1.out
    have c2 := H2.out
    have c3 := H3.out
    exact bodyPost_ret (v := .tuple #[.slice none 0 0, .string ⟨List.toArray ([])⟩, .int .i64 (1)]) (by simp [results, Tryd.f13, go_sem, c1, c2, c3]) rfl ⟨rfl, HB0.out⟩

theorem IRow.from {w : World} {b : Nat} {v : Value} {l : List It} (h : IRow w b v l) : ∀ k ∈ v.ownBlock.toList, b ≤ k := by
  intro k hk
  exact h.own k (by simpa using hk)
theorem Mod.belowB {l : List Nat} {w w' : World} {B : Nat} (h : Mod l w w') (hl : ∀ k ∈ l, B ≤ k) (hB : B ≤ w.heap.size) : Below B w w' :=
  ⟨h.os, h.tape, h.output, h.size, fun k hk => h.block k (by omega) (fun hm => by have := hl k hm; omega)⟩

/-- What Range tells, of either side. -/
def RgP (X : List It) (nx : Bs) (c : Int) (B : Nat) (w : World) (e : Ending) (w' : World) : Prop := ∃ v, e = .returned (.tuple #[v, .string ⟨List.toArray (nx)⟩, .int .i64 (c)]) ∧ IRow w' B v X ∧ Below B w w'
def RgR (X : List It) (nx : Bs) (c : Int) (B : Nat) (w : World) (e : Ending) (w' : World) : Prop := ∃ v, e = .returned (.tuple #[v, .string ⟨List.toArray (nx)⟩, .int .i64 (c)]) ∧ IL w' v X ∧ Below B w w'
theorem ranges_both (pt : Nat) (t : Tr) (L : List It) (hR : RepT t L) (hL : L.length ≤ 1000) (f e : Bs) (mo : Int) : ∃ X nx c,
    (∀ W, TAt W pt t → Calls Tryd.prog 13 #[.pointer (some ⟨pt, 0, none⟩), .string ⟨List.toArray (f)⟩, .string ⟨List.toArray (e)⟩, .int .i64 (mo)] W (RgP X nx c W.heap.size W)) ∧
    (∀ v W, IL W v L → Calls Tryd.prog 14 #[v, .string ⟨List.toArray (f)⟩, .string ⟨List.toArray (e)⟩, .int .i64 (mo)] W (RgR X nx c W.heap.size W)) := by
  by_cases h : mo < 1 ∨ 16 < mo
  · refine ⟨[], [], 1, fun W hT => (range_no pt f e mo h W).mono ?_, fun v W hv => (rrange_no v f e mo h W).mono ?_⟩
    · rintro _ w' ⟨rfl, hb⟩
      exact ⟨_, rfl, IRow.nil _ _, hb⟩
    · rintro _ w' ⟨rfl, rfl⟩
      exact ⟨_, rfl, il_end none 0 (by unfold maxLen; omega), Below.refl _ _⟩
  · obtain ⟨n, rfl⟩ : ∃ n : Nat, mo = (n : Int) := ⟨mo.toNat, by omega⟩
    have hall := wI_all f e L hR.rise
    refine ⟨(wI f e L).take n, nextP (wI f e L) n, 0, fun W hT => range_yes pt t L hR (by omega) f e n (by omega) (by omega) W hT, fun v W hv => ?_⟩
    have := rrange_yes v L hL f e n (by omega) (by omega) W hv
    rw [← hall] at this
    exact this

set_option maxRecDepth 100000 in
set_option maxHeartbeats 8000000 in
theorem scantells_any (v : Value) (l : List It) (hsh : ∀ x ∈ l, x.1.length ≤ 9223372036854775807 ∧ x.2.length ≤ 9223372036854775807) (a b : Bs) (mo : Int) (w : World) (hk : KT w) (hv : IL w v l) :
    Calls Tryd.prog 4 #[v, .agg #[.string ⟨List.toArray (a)⟩, .string ⟨List.toArray (b)⟩], .int .i64 (mo)] w fun e w' => e = .returned (.bool true) ∧ Below w.heap.size w w' := by
  have hb0 : Below w.heap.size w (w.alloc (.cells #[.string ⟨List.toArray (a)⟩, .string ⟨List.toArray (b)⟩] 26)) := Below.allocS (Below.refl _ _) _
  have HW := Lib.hid (fun W (hb : Below w.heap.size w W) => works11_any W (hk.keep hb))
  have HBA := Lib.hid (fun k W => sbehind_any k W)
  have HBR := Lib.hid (fun k W => rbehind_any k W)
  have HB0 := Lib.hid (Blk.new w #[.string ⟨List.toArray (a)⟩, .string ⟨List.toArray (b)⟩] 26)
  have Hb0 := Lib.hid hb0
  by_cases hbig : 40 < l.length ∨ 100 < a.length ∨ 100 < b.length
  · have hW := HW.out _ hb0
    have HW2 := Lib.hid hW
    obtain ⟨va, vc, rfl⟩ := hv.form
    have hfin : Hid (∀ e w', e = Ending.returned (.bool true) ∧ Below (w.alloc (.cells #[.string ⟨List.toArray (a)⟩, .string ⟨List.toArray (b)⟩] 26)).heap.size (w.alloc (.cells #[.string ⟨List.toArray (a)⟩, .string ⟨List.toArray (b)⟩] 26)) w' → e = .returned (.bool true) ∧ Below w.heap.size w w') := Lib.hid (fun e w' h => ⟨h.1, hb0.trans (h.2.mono hb0.size)⟩)
    clear hsh hk hv hb0 hW HBA HBR HB0 Hb0 HW
    by_cases h1 : 40 < l.length
    · have d1 : decide ((40 : Int) < (l.length : Int)) = true := by simp only [decide_eq_true_eq]; omega
      clear h1 hbig
      go_enter Tryd.func4, Tryd.ntmps4
      go_wp2_with fail
      refine HW2.out.mono ?_
      rintro e w1 ⟨rfl, hb1⟩
      have hff := hfin.out _ _ ⟨rfl, hb1⟩
      go_wp2_with fail
      go_ret
      exact ⟨rfl, hff.2⟩
    · have d1 : decide ((40 : Int) < (l.length : Int)) = false := by simp only [decide_eq_false_iff_not]; omega
      by_cases h2 : 100 < a.length
      · have d2 : decide ((100 : Int) < (a.length : Int)) = true := by simp only [decide_eq_true_eq]; omega
        clear h1 h2 hbig
        go_enter Tryd.func4, Tryd.ntmps4
        go_wp2_with fail
        refine HW2.out.mono ?_
        rintro e w1 ⟨rfl, hb1⟩
        have hff := hfin.out _ _ ⟨rfl, hb1⟩
        go_wp2_with fail
        go_ret
        exact ⟨rfl, hff.2⟩
      · have d2 : decide ((100 : Int) < (a.length : Int)) = false := by simp only [decide_eq_false_iff_not]; omega
        have d3 : decide ((100 : Int) < (b.length : Int)) = true := by simp only [decide_eq_true_eq]; omega
        clear h1 h2 hbig
        go_enter Tryd.func4, Tryd.ntmps4
        go_wp2_with fail
        refine HW2.out.mono ?_
        rintro e w1 ⟨rfl, hb1⟩
        have hff := hfin.out _ _ ⟨rfl, hb1⟩
        go_wp2_with fail
        go_ret
        exact ⟨rfl, hff.2⟩
  have d1 : decide ((40 : Int) < (l.length : Int)) = false := by simp only [decide_eq_false_iff_not]; omega
  have d2 : decide ((100 : Int) < (a.length : Int)) = false := by simp only [decide_eq_false_iff_not]; omega
  have d3 : decide ((100 : Int) < (b.length : Int)) = false := by simp only [decide_eq_false_iff_not]; omega
  have hll : l.length ≤ 40 := by omega
  have HO := Lib.hid (fun W (hb : Below w.heap.size w W) => tof_any v l hsh W (hk.keep hb) (hv.keep hb))
  have HRO := Lib.hid (rof_any v l _ (hv.keep hb0))
  obtain ⟨va, vc, rfl⟩ := hv.form
  clear hsh hk hv hb0 hbig
  go_enter Tryd.func4, Tryd.ntmps4
  go_wp2_with fail
  refine HRO.out.mono ?_
  rintro e w1 ⟨hb1, h | h⟩
  · obtain ⟨hc0, vi, rfl, hri⟩ := h
    have hw1 := Hb0.out.trans (hb1.mono Hb0.out.size)
    have HB1 := Lib.hid (HB0.out.keep hb1)
    clear HB0 Hb0 hb1 HRO
    go_wp2_with fail
    refine (HO.out w1 hw1).mono ?_
    rintro e w2 ⟨hb2, h | h⟩
    · obtain ⟨_, pt, t, rfl, hT, hR⟩ := h
      have hw2 := hw1.trans (hb2.mono hw1.size)
      have B2 := HB1.out.keep hb2
      have hri2 := hri.keep hb2
      have hlen : (ofI [] l).1.length ≤ 40 := by have := ofI_len l []; simp at this; omega
      clear hc0 hri hb2 HB1 HO
      generalize (ofI [] l).1 = L at *
      have hall := wI_all a b L hR.rise
      obtain ⟨X, nx, cd, hrg1, hrg2⟩ := ranges_both pt t L hR (by omega) a b mo
      have HRG1 := Lib.hid hrg1
      have HRG2 := Lib.hid hrg2
      have HCN := Lib.hid (fun W hW => count_any pt t L hR (by omega) a b W hW)
      have HIT := Lib.hid (fun W hW => titems_any pt t L hR (by omega) W hW)
      have HAL := Lib.hid (fun W hW => rall_any vi L (by omega) a b W hW)
      rw [hall] at HCN
      generalize allI a b L = AL at *
      have HT2 := Lib.hid hT
      have HI2 := Lib.hid hri2.il
      have c0 := B2.cell 0
      have c1 := B2.cell 1
      have q2 := B2.lt
      clear hT hR hri2 B2 hall hrg1 hrg2 hlen
      go_wp2_with fail
      refine (HRG1.out _ HT2.out).mono ?_
      rintro e w3 ⟨v3, rfl, hr3, hb3⟩
      have p0 := keepC hb3 c0
      have p1 := keepC hb3 c1
      have HI3 := Lib.hid (HI2.out.keep hb3)
      have HR3 := Lib.hid hr3
      have HB23 := Lib.hid hb3
      have hw3 := hw2.trans (hb3.mono hw2.size)
      have HT3 := Lib.hid (HT2.out.keep hb3)
      have HC0 := Lib.hid c0
      have HC1 := Lib.hid c1
      clear hr3 hb3 c0 c1 q2 HRG1
      go_wp2_with fail
      refine (HRG2.out _ _ HI3.out).mono ?_
      rintro e w4 ⟨v4, rfl, hr4, hb4⟩
      have c0 := keepC hb4 p0
      have c1 := keepC hb4 p1
      have HI4 := Lib.hid (HI3.out.keep hb4)
      have HT4 := Lib.hid (HT3.out.keep hb4)
      have HR4 := Lib.hid hr4
      have HR34 := Lib.hid (HR3.out.keep hb4)
      have HB24 := Lib.hid (HB23.out.trans (hb4.mono HB23.out.size))
      have hw4 := hw3.trans (hb4.mono hw3.size)
      have HSI := Lib.hid (fun u W (hu : IL W u X) v (hv : IL W v X) => sameitems_any u v X X W hu hv)
      have HSL := Lib.hid (fun u W (hu : IL W u L) v (hv : IL W v L) => sameitems_any u v L L W hu hv)
      rw [show decide (X = X) = true from by simp] at HSI
      rw [show decide (L = L) = true from by simp] at HSL
      clear hr4 hb4 p0 p1 HRG2 HI3 HR3 HT3 HB23
      go_wp2_with fail
      refine wpH_start (by kernel_rfl) (fun hS => ?_)
      (refine wpH_pure 0 ?_ (oi := { dst := some 80, op := Op.move (Operand.tmp 11), type := 25, pos := "law.go:28", after := #[], guard := none }) rfl (by kernel_rfl) (by kernel_rfl) (by kernel_rfl) (by rfl) hS (fun _ _ _ h => h) ?_ ?_; rotate_left; focus (intro w; go_simp; try with_reducible rfl))
      try simp only [Act.put, List.setIfInBounds_toArray, List.set_cons_zero, List.set_cons_succ]
      (refine wpH_pure 1 ?_ (oi := { dst := some 81, op := Op.move (Operand.tmp 14), type := 25, pos := "law.go:28", after := #[], guard := none }) rfl (by kernel_rfl) (by kernel_rfl) (by kernel_rfl) (by rfl) hS (fun _ _ _ h => h) ?_ ?_; rotate_left; focus (intro w; go_simp; try with_reducible rfl))
      try simp only [Act.put, List.setIfInBounds_toArray, List.set_cons_zero, List.set_cons_succ]
      refine wpH_call 2 (oi := { dst := some 82, op := Op.call { callee := Callee.value (Operand.func 15), args := #[Operand.tmp 80, Operand.tmp 81], argTypes := #[25, 25] }, type := 4, pos := "law.go:28", after := #[{ on := 0, ground := Ground.data }, { on := 1, ground := Ground.data }], guard := none }) rfl (by kernel_rfl) (by rfl) (HSI.out _ _ (HR34.out.il.keep hS) _ (HR4.out.keep hS)) ?_ ?_
      · (go_simp; try rfl)
      rintro e w' ⟨rfl, nn, rfl⟩
      refine ⟨_, rfl, below_drewN hS nn, ?_⟩
      replace hS := below_drewN hS nn
      try simp only [Act.put, List.setIfInBounds_toArray, List.set_cons_zero, List.set_cons_succ]
      (refine wpH_pure 3 ?_ (oi := { dst := some 83, op := Op.unOp UnOp.not 4 (Operand.tmp 82), type := 4, pos := "law.go:28", after := #[{ on := 2, ground := Ground.data }], guard := none }) rfl (by kernel_rfl) (by kernel_rfl) (by kernel_rfl) (by rfl) hS (fun _ _ _ h => h) ?_ ?_; rotate_left; focus (intro w; go_simp; try with_reducible rfl))
      try simp only [Act.put, List.setIfInBounds_toArray, List.set_cons_zero, List.set_cons_succ]
      (refine wpH_pure 4 ?_ (oi := { dst := some 84, op := Op.move (Operand.tmp 83), type := 4, pos := "law.go:28", after := #[{ on := 3, ground := Ground.data }, { on := 2, ground := Ground.chain }], guard := none }) rfl (by kernel_rfl) (by kernel_rfl) (by kernel_rfl) (by rfl) hS (fun _ _ _ h => h) ?_ ?_; rotate_left; focus (intro w; go_simp; try with_reducible rfl))
      try simp only [Act.put, List.setIfInBounds_toArray, List.set_cons_zero, List.set_cons_succ]
      (first | (refine wpH_skip 5 (oi := { dst := some 85, op := Op.move (Operand.tmp 12), type := 9, pos := "law.go:28", after := #[{ on := 4, ground := Ground.guard }], guard := some (4, false) }) rfl (by kernel_rfl) (by kernel_rfl) (by kernel_rfl) (by rfl) hS (fun _ _ _ h => h) ?_) | (refine wpH_pure 5 ?_ (oi := { dst := some 85, op := Op.move (Operand.tmp 12), type := 9, pos := "law.go:28", after := #[{ on := 4, ground := Ground.guard }], guard := some (4, false) }) rfl (by kernel_rfl) (by kernel_rfl) (by kernel_rfl) (by rfl) hS (fun _ _ _ h => h) ?_ ?_; rotate_left; focus (intro w; go_simp; try with_reducible rfl)))
      try simp only [Act.put, List.setIfInBounds_toArray, List.set_cons_zero, List.set_cons_succ]
      (first | (refine wpH_skip 6 (oi := { dst := some 86, op := Op.move (Operand.tmp 15), type := 9, pos := "law.go:28", after := #[{ on := 4, ground := Ground.guard }], guard := some (4, false) }) rfl (by kernel_rfl) (by kernel_rfl) (by kernel_rfl) (by rfl) hS (fun _ _ _ h => h) ?_) | (refine wpH_pure 6 ?_ (oi := { dst := some 86, op := Op.move (Operand.tmp 15), type := 9, pos := "law.go:28", after := #[{ on := 4, ground := Ground.guard }], guard := some (4, false) }) rfl (by kernel_rfl) (by kernel_rfl) (by kernel_rfl) (by rfl) hS (fun _ _ _ h => h) ?_ ?_; rotate_left; focus (intro w; go_simp; try with_reducible rfl)))
      try simp only [Act.put, List.setIfInBounds_toArray, List.set_cons_zero, List.set_cons_succ]
      (first | (refine wpH_skip 7 (oi := { dst := some 87, op := Op.binOp BinOp.neq 9 (Operand.tmp 85) (Operand.tmp 86) 9, type := 4, pos := "law.go:28", after := #[{ on := 5, ground := Ground.data }, { on := 6, ground := Ground.data }, { on := 4, ground := Ground.guard }], guard := some (4, false) }) rfl (by kernel_rfl) (by kernel_rfl) (by kernel_rfl) (by rfl) hS (fun _ _ _ h => h) ?_) | (refine wpH_pure 7 ?_ (oi := { dst := some 87, op := Op.binOp BinOp.neq 9 (Operand.tmp 85) (Operand.tmp 86) 9, type := 4, pos := "law.go:28", after := #[{ on := 5, ground := Ground.data }, { on := 6, ground := Ground.data }, { on := 4, ground := Ground.guard }], guard := some (4, false) }) rfl (by kernel_rfl) (by kernel_rfl) (by kernel_rfl) (by rfl) hS (fun _ _ _ h => h) ?_ ?_; rotate_left; focus (intro w; go_simp; try with_reducible rfl)))
      try simp only [Act.put, List.setIfInBounds_toArray, List.set_cons_zero, List.set_cons_succ]
      (refine wpH_pure 8 ?_ (oi := { dst := some 88, op := Op.pick (Operand.tmp 84) (Operand.const (Value.bool true)) (Operand.tmp 87), type := 4, pos := "law.go:28", after := #[{ on := 4, ground := Ground.data }, { on := 7, ground := Ground.data }], guard := none }) rfl (by kernel_rfl) (by kernel_rfl) (by kernel_rfl) (by rfl) hS (fun _ _ _ h => h) ?_ ?_; rotate_left; focus (intro w; go_simp; try with_reducible rfl))
      try simp only [Act.put, List.setIfInBounds_toArray, List.set_cons_zero, List.set_cons_succ]
      (refine wpH_pure 9 ?_ (oi := { dst := some 89, op := Op.move (Operand.tmp 88), type := 4, pos := "law.go:28", after := #[{ on := 8, ground := Ground.data }, { on := 4, ground := Ground.chain }], guard := none }) rfl (by kernel_rfl) (by kernel_rfl) (by kernel_rfl) (by rfl) hS (fun _ _ _ h => h) ?_ ?_; rotate_left; focus (intro w; go_simp; try with_reducible rfl))
      try simp only [Act.put, List.setIfInBounds_toArray, List.set_cons_zero, List.set_cons_succ]
      (first | (refine wpH_skip 10 (oi := { dst := some 90, op := Op.move (Operand.tmp 13), type := 27, pos := "law.go:28", after := #[{ on := 9, ground := Ground.guard }], guard := some (9, false) }) rfl (by kernel_rfl) (by kernel_rfl) (by kernel_rfl) (by rfl) hS (fun _ _ _ h => h) ?_) | (refine wpH_pure 10 ?_ (oi := { dst := some 90, op := Op.move (Operand.tmp 13), type := 27, pos := "law.go:28", after := #[{ on := 9, ground := Ground.guard }], guard := some (9, false) }) rfl (by kernel_rfl) (by kernel_rfl) (by kernel_rfl) (by rfl) hS (fun _ _ _ h => h) ?_ ?_; rotate_left; focus (intro w; go_simp; try with_reducible rfl)))
      try simp only [Act.put, List.setIfInBounds_toArray, List.set_cons_zero, List.set_cons_succ]
      (first | (refine wpH_skip 11 (oi := { dst := some 91, op := Op.move (Operand.tmp 16), type := 27, pos := "law.go:28", after := #[{ on := 9, ground := Ground.guard }], guard := some (9, false) }) rfl (by kernel_rfl) (by kernel_rfl) (by kernel_rfl) (by rfl) hS (fun _ _ _ h => h) ?_) | (refine wpH_pure 11 ?_ (oi := { dst := some 91, op := Op.move (Operand.tmp 16), type := 27, pos := "law.go:28", after := #[{ on := 9, ground := Ground.guard }], guard := some (9, false) }) rfl (by kernel_rfl) (by kernel_rfl) (by kernel_rfl) (by rfl) hS (fun _ _ _ h => h) ?_ ?_; rotate_left; focus (intro w; go_simp; try with_reducible rfl)))
      try simp only [Act.put, List.setIfInBounds_toArray, List.set_cons_zero, List.set_cons_succ]
      (first | (refine wpH_skip 12 (oi := { dst := some 92, op := Op.binOp BinOp.neq 27 (Operand.tmp 90) (Operand.tmp 91) 27, type := 4, pos := "law.go:28", after := #[{ on := 10, ground := Ground.data }, { on := 11, ground := Ground.data }, { on := 9, ground := Ground.guard }], guard := some (9, false) }) rfl (by kernel_rfl) (by kernel_rfl) (by kernel_rfl) (by rfl) hS (fun _ _ _ h => h) ?_) | (refine wpH_pure 12 ?_ (oi := { dst := some 92, op := Op.binOp BinOp.neq 27 (Operand.tmp 90) (Operand.tmp 91) 27, type := 4, pos := "law.go:28", after := #[{ on := 10, ground := Ground.data }, { on := 11, ground := Ground.data }, { on := 9, ground := Ground.guard }], guard := some (9, false) }) rfl (by kernel_rfl) (by kernel_rfl) (by kernel_rfl) (by rfl) hS (fun _ _ _ h => h) ?_ ?_; rotate_left; focus (intro w; go_simp; try with_reducible rfl)))
      try simp only [Act.put, List.setIfInBounds_toArray, List.set_cons_zero, List.set_cons_succ]
      (refine wpH_pure 13 ?_ (oi := { dst := some 93, op := Op.pick (Operand.tmp 89) (Operand.const (Value.bool true)) (Operand.tmp 92), type := 4, pos := "law.go:28", after := #[{ on := 9, ground := Ground.data }, { on := 12, ground := Ground.data }], guard := none }) rfl (by kernel_rfl) (by kernel_rfl) (by kernel_rfl) (by rfl) hS (fun _ _ _ h => h) ?_ ?_; rotate_left; focus (intro w; go_simp; try with_reducible rfl))
      try simp only [Act.put, List.setIfInBounds_toArray, List.set_cons_zero, List.set_cons_succ]
      (refine wpH_pure 14 ?_ (oi := { dst := some 94, op := Op.move (Operand.tmp 93), type := 4, pos := "law.go:28", after := #[{ on := 13, ground := Ground.data }, { on := 9, ground := Ground.chain }], guard := none }) rfl (by kernel_rfl) (by kernel_rfl) (by kernel_rfl) (by rfl) hS (fun _ _ _ h => h) ?_ ?_; rotate_left; focus (intro w; go_simp; try with_reducible rfl))
      try simp only [Act.put, List.setIfInBounds_toArray, List.set_cons_zero, List.set_cons_succ]
      (first | (refine wpH_skip 15 (oi := { dst := some 95, op := Op.move (Operand.tmp 9), type := 30, pos := "law.go:28", after := #[{ on := 14, ground := Ground.guard }], guard := some (14, false) }) rfl (by kernel_rfl) (by kernel_rfl) (by kernel_rfl) (by rfl) hS (fun _ _ _ h => h) ?_) | (refine wpH_pure 15 ?_ (oi := { dst := some 95, op := Op.move (Operand.tmp 9), type := 30, pos := "law.go:28", after := #[{ on := 14, ground := Ground.guard }], guard := some (14, false) }) rfl (by kernel_rfl) (by kernel_rfl) (by kernel_rfl) (by rfl) hS (fun _ _ _ h => h) ?_ ?_; rotate_left; focus (intro w; go_simp; try with_reducible rfl)))
      try simp only [Act.put, List.setIfInBounds_toArray, List.set_cons_zero, List.set_cons_succ]
      (first | (refine wpH_skip 16 (oi := { dst := some 96, op := Op.indexAddr 26 (Operand.tmp 4) (Operand.const (Value.int IntKind.i64 0)), type := 0, pos := "law.go:28", after := #[{ on := 14, ground := Ground.guard }], guard := some (14, false) }) rfl (by kernel_rfl) (by kernel_rfl) (by kernel_rfl) (by rfl) hS (fun _ _ _ h => h) ?_) | (refine wpH_pure 16 ?_ (oi := { dst := some 96, op := Op.indexAddr 26 (Operand.tmp 4) (Operand.const (Value.int IntKind.i64 0)), type := 0, pos := "law.go:28", after := #[{ on := 14, ground := Ground.guard }], guard := some (14, false) }) rfl (by kernel_rfl) (by kernel_rfl) (by kernel_rfl) (by rfl) hS (fun _ _ _ h => h) ?_ ?_; rotate_left; focus (intro w; go_simp; try with_reducible rfl)))
      try simp only [Act.put, List.setIfInBounds_toArray, List.set_cons_zero, List.set_cons_succ]
      refine wpH_load 17 (.string ⟨List.toArray (a)⟩) (oi := { dst := some 97, op := Op.load 9 (Operand.tmp 96), type := 9, pos := "law.go:28", after := #[{ on := 16, ground := Ground.data }, { on := 14, ground := Ground.guard }], guard := some (14, false) }) rfl (by kernel_rfl) (by kernel_rfl) (by kernel_rfl) (by rfl) hS (fun _ _ _ h => h) (fun w hb => (by have q := keepC hb c0; go_simp; try rfl)) ?_
      try simp only [Act.put, List.setIfInBounds_toArray, List.set_cons_zero, List.set_cons_succ]
      (first | (refine wpH_skip 18 (oi := { dst := some 98, op := Op.indexAddr 26 (Operand.tmp 4) (Operand.const (Value.int IntKind.i64 1)), type := 0, pos := "law.go:28", after := #[{ on := 14, ground := Ground.guard }], guard := some (14, false) }) rfl (by kernel_rfl) (by kernel_rfl) (by kernel_rfl) (by rfl) hS (fun _ _ _ h => h) ?_) | (refine wpH_pure 18 ?_ (oi := { dst := some 98, op := Op.indexAddr 26 (Operand.tmp 4) (Operand.const (Value.int IntKind.i64 1)), type := 0, pos := "law.go:28", after := #[{ on := 14, ground := Ground.guard }], guard := some (14, false) }) rfl (by kernel_rfl) (by kernel_rfl) (by kernel_rfl) (by rfl) hS (fun _ _ _ h => h) ?_ ?_; rotate_left; focus (intro w; go_simp; try with_reducible rfl)))
      try simp only [Act.put, List.setIfInBounds_toArray, List.set_cons_zero, List.set_cons_succ]
      refine wpH_load 19 (.string ⟨List.toArray (b)⟩) (oi := { dst := some 99, op := Op.load 9 (Operand.tmp 98), type := 9, pos := "law.go:28", after := #[{ on := 18, ground := Ground.data }, { on := 14, ground := Ground.guard }], guard := some (14, false) }) rfl (by kernel_rfl) (by kernel_rfl) (by kernel_rfl) (by rfl) hS (fun _ _ _ h => h) (fun w hb => (by have q := keepC hb c1; go_simp; try rfl)) ?_
      try simp only [Act.put, List.setIfInBounds_toArray, List.set_cons_zero, List.set_cons_succ]
      (first | (refine wpH_skip 21 (oi := { dst := some 101, op := Op.move (Operand.tmp 7), type := 25, pos := "law.go:28", after := #[{ on := 14, ground := Ground.guard }], guard := some (14, false) }) rfl (by kernel_rfl) (by kernel_rfl) (by kernel_rfl) (by rfl) hS (fun _ _ _ h => h) ?_) | (refine wpH_pure 21 ?_ (oi := { dst := some 101, op := Op.move (Operand.tmp 7), type := 25, pos := "law.go:28", after := #[{ on := 14, ground := Ground.guard }], guard := some (14, false) }) rfl (by kernel_rfl) (by kernel_rfl) (by kernel_rfl) (by rfl) hS (fun _ _ _ h => h) ?_ ?_; rotate_left; focus (intro w; go_simp; try with_reducible rfl)))
      try simp only [Act.put, List.setIfInBounds_toArray, List.set_cons_zero, List.set_cons_succ]
      (first | (refine wpH_skip 22 (oi := { dst := some 102, op := Op.indexAddr 26 (Operand.tmp 4) (Operand.const (Value.int IntKind.i64 0)), type := 0, pos := "law.go:28", after := #[{ on := 14, ground := Ground.guard }], guard := some (14, false) }) rfl (by kernel_rfl) (by kernel_rfl) (by kernel_rfl) (by rfl) hS (fun _ _ _ h => h) ?_) | (refine wpH_pure 22 ?_ (oi := { dst := some 102, op := Op.indexAddr 26 (Operand.tmp 4) (Operand.const (Value.int IntKind.i64 0)), type := 0, pos := "law.go:28", after := #[{ on := 14, ground := Ground.guard }], guard := some (14, false) }) rfl (by kernel_rfl) (by kernel_rfl) (by kernel_rfl) (by rfl) hS (fun _ _ _ h => h) ?_ ?_; rotate_left; focus (intro w; go_simp; try with_reducible rfl)))
      try simp only [Act.put, List.setIfInBounds_toArray, List.set_cons_zero, List.set_cons_succ]
      refine wpH_load 23 (.string ⟨List.toArray (a)⟩) (oi := { dst := some 103, op := Op.load 9 (Operand.tmp 102), type := 9, pos := "law.go:28", after := #[{ on := 22, ground := Ground.data }, { on := 14, ground := Ground.guard }], guard := some (14, false) }) rfl (by kernel_rfl) (by kernel_rfl) (by kernel_rfl) (by rfl) hS (fun _ _ _ h => h) (fun w hb => (by have q := keepC hb c0; go_simp; try rfl)) ?_
      try simp only [Act.put, List.setIfInBounds_toArray, List.set_cons_zero, List.set_cons_succ]
      (first | (refine wpH_skip 24 (oi := { dst := some 104, op := Op.indexAddr 26 (Operand.tmp 4) (Operand.const (Value.int IntKind.i64 1)), type := 0, pos := "law.go:28", after := #[{ on := 14, ground := Ground.guard }], guard := some (14, false) }) rfl (by kernel_rfl) (by kernel_rfl) (by kernel_rfl) (by rfl) hS (fun _ _ _ h => h) ?_) | (refine wpH_pure 24 ?_ (oi := { dst := some 104, op := Op.indexAddr 26 (Operand.tmp 4) (Operand.const (Value.int IntKind.i64 1)), type := 0, pos := "law.go:28", after := #[{ on := 14, ground := Ground.guard }], guard := some (14, false) }) rfl (by kernel_rfl) (by kernel_rfl) (by kernel_rfl) (by rfl) hS (fun _ _ _ h => h) ?_ ?_; rotate_left; focus (intro w; go_simp; try with_reducible rfl)))
      try simp only [Act.put, List.setIfInBounds_toArray, List.set_cons_zero, List.set_cons_succ]
      refine wpH_load 25 (.string ⟨List.toArray (b)⟩) (oi := { dst := some 105, op := Op.load 9 (Operand.tmp 104), type := 9, pos := "law.go:28", after := #[{ on := 24, ground := Ground.data }, { on := 14, ground := Ground.guard }], guard := some (14, false) }) rfl (by kernel_rfl) (by kernel_rfl) (by kernel_rfl) (by rfl) hS (fun _ _ _ h => h) (fun w hb => (by have q := keepC hb c1; go_simp; try rfl)) ?_
      try simp only [Act.put, List.setIfInBounds_toArray, List.set_cons_zero, List.set_cons_succ]
      refine wpH_call 20 (oi := { dst := some 100, op := Op.call { callee := Callee.value (Operand.func 16), args := #[Operand.tmp 95, Operand.tmp 97, Operand.tmp 99], argTypes := #[30, 9, 9] }, type := 3, pos := "law.go:28", after := #[{ on := 15, ground := Ground.data }, { on := 17, ground := Ground.data }, { on := 19, ground := Ground.data }, { on := 14, ground := Ground.chain }, { on := 14, ground := Ground.guard }], guard := some (14, false) }) rfl (by kernel_rfl) (by rfl) (HCN.out _ (HT4.out.keep hS)) ?_ ?_
      · (go_simp; try rfl)
      rintro e w' ⟨rfl, hbx⟩
      refine ⟨_, rfl, hS.trans (hbx.mono hS.size), ?_⟩
      replace hS := hS.trans (hbx.mono hS.size)
      try simp only [Act.put, List.setIfInBounds_toArray, List.set_cons_zero, List.set_cons_succ]
      refine wpH_call 26 (oi := { dst := some 106, op := Op.call { callee := Callee.value (Operand.func 17), args := #[Operand.tmp 101, Operand.tmp 103, Operand.tmp 105], argTypes := #[25, 9, 9] }, type := 25, pos := "law.go:28", after := #[{ on := 21, ground := Ground.data }, { on := 23, ground := Ground.data }, { on := 25, ground := Ground.data }, { on := 20, ground := Ground.chain }, { on := 14, ground := Ground.guard }], guard := some (14, false) }) rfl (by kernel_rfl) (by rfl) (HAL.out _ (HI4.out.keep hS)) ?_ ?_
      · (go_simp; try rfl)
      rintro e w' ⟨vA, rfl, hrA, hbA⟩
      refine ⟨_, rfl, hS.trans (hbA.mono hS.size), ?_⟩
      replace hS := hS.trans (hbA.mono hS.size)
      obtain ⟨aA, cA, rfl⟩ := hrA.form
      try simp only [Act.put, List.setIfInBounds_toArray, List.set_cons_zero, List.set_cons_succ]
      (first | (refine wpH_skip 27 (oi := { dst := some 107, op := Op.call { callee := Callee.builtin Builtin.len, args := #[Operand.tmp 106], argTypes := #[25] }, type := 3, pos := "law.go:28", after := #[{ on := 26, ground := Ground.data }, { on := 14, ground := Ground.guard }], guard := some (14, false) }) rfl (by kernel_rfl) (by kernel_rfl) (by kernel_rfl) (by rfl) hS (fun _ _ _ h => h) ?_) | (refine wpH_pure 27 ?_ (oi := { dst := some 107, op := Op.call { callee := Callee.builtin Builtin.len, args := #[Operand.tmp 106], argTypes := #[25] }, type := 3, pos := "law.go:28", after := #[{ on := 26, ground := Ground.data }, { on := 14, ground := Ground.guard }], guard := some (14, false) }) rfl (by kernel_rfl) (by kernel_rfl) (by kernel_rfl) (by rfl) hS (fun _ _ _ h => h) ?_ ?_; rotate_left; focus (intro w; go_simp; try with_reducible rfl)))
      try simp only [Act.put, List.setIfInBounds_toArray, List.set_cons_zero, List.set_cons_succ]
      (first | (refine wpH_skip 28 (oi := { dst := some 108, op := Op.binOp BinOp.neq 3 (Operand.tmp 100) (Operand.tmp 107) 3, type := 4, pos := "law.go:28", after := #[{ on := 20, ground := Ground.data }, { on := 27, ground := Ground.data }, { on := 14, ground := Ground.guard }], guard := some (14, false) }) rfl (by kernel_rfl) (by kernel_rfl) (by kernel_rfl) (by rfl) hS (fun _ _ _ h => h) ?_) | (refine wpH_pure 28 ?_ (oi := { dst := some 108, op := Op.binOp BinOp.neq 3 (Operand.tmp 100) (Operand.tmp 107) 3, type := 4, pos := "law.go:28", after := #[{ on := 20, ground := Ground.data }, { on := 27, ground := Ground.data }, { on := 14, ground := Ground.guard }], guard := some (14, false) }) rfl (by kernel_rfl) (by kernel_rfl) (by kernel_rfl) (by rfl) hS (fun _ _ _ h => h) ?_ ?_; rotate_left; focus (intro w; go_simp; try with_reducible rfl)))
      try simp only [Act.put, List.setIfInBounds_toArray, List.set_cons_zero, List.set_cons_succ]
      (refine wpH_pure 29 ?_ (oi := { dst := some 109, op := Op.pick (Operand.tmp 94) (Operand.const (Value.bool true)) (Operand.tmp 108), type := 4, pos := "law.go:28", after := #[{ on := 14, ground := Ground.data }, { on := 28, ground := Ground.data }], guard := none }) rfl (by kernel_rfl) (by kernel_rfl) (by kernel_rfl) (by rfl) hS (fun _ _ _ h => h) ?_ ?_; rotate_left; focus (intro w; go_simp; try with_reducible rfl))
      try simp only [Act.put, List.setIfInBounds_toArray, List.set_cons_zero, List.set_cons_succ]
      refine wpAnyH_done (by kernel_rfl) ?_ _
      go_wp2_with fail
      have hR5 := HR34.out.keep hS
      have HB25 := HB24.out.trans (hS.mono HB24.out.size)
      have hw5 := hw4.trans (hS.mono hw4.size)
      have hsz := HB25.size
      have HM := Lib.hid (fun (w6 : World) (hm : Mod v3.ownBlock.toList w' w6) => hm.belowB hR5.from hsz)
      have HSP := Lib.hid (spoili_any _ _ _ _ hR5)
      have HB25' := Lib.hid HB25
      have Hw5 := Lib.hid hw5
      clear hS c0 c1 hrA hR5 HB25 hw5 hsz HR34 HR4 HI4 HT4 HB24 HSI HCN HAL hw3 hw4
      go_wp2_with fail
      refine HSP.out.mono ?_
      rintro e w6 ⟨rfl, hm6⟩
      have hb26 := HB25'.out.trans (HM.out _ hm6)
      have hw6 := hw2.trans (hb26.mono hw2.size)
      have c0 := keepC hb26 HC0.out
      have c1 := keepC hb26 HC1.out
      have HT6 := Lib.hid (HT2.out.keep hb26)
      have HI6 := Lib.hid (HI2.out.keep hb26)
      clear HM HSP HB25' Hw5 hm6 hb26 HC0 HC1 HT2 HI2 hw2 hw1
      go_wp2_with fail
      refine wpH_start (by kernel_rfl) (fun hS => ?_)
      (refine wpH_pure 0 ?_ (oi := { dst := some 112, op := Op.move (Operand.tmp 9), type := 30, pos := "law.go:32", after := #[], guard := none }) rfl (by kernel_rfl) (by kernel_rfl) (by kernel_rfl) (by rfl) hS (fun _ _ _ h => h) ?_ ?_; rotate_left; focus (intro w; go_simp; try with_reducible rfl))
      try simp only [Act.put, List.setIfInBounds_toArray, List.set_cons_zero, List.set_cons_succ]
      (refine wpH_pure 2 ?_ (oi := { dst := some 114, op := Op.move (Operand.tmp 7), type := 25, pos := "law.go:32", after := #[], guard := none }) rfl (by kernel_rfl) (by kernel_rfl) (by kernel_rfl) (by rfl) hS (fun _ _ _ h => h) ?_ ?_; rotate_left; focus (intro w; go_simp; try with_reducible rfl))
      try simp only [Act.put, List.setIfInBounds_toArray, List.set_cons_zero, List.set_cons_succ]
      refine wpH_call 1 (oi := { dst := some 113, op := Op.call { callee := Callee.value (Operand.func 19), args := #[Operand.tmp 112], argTypes := #[30] }, type := 25, pos := "law.go:32", after := #[{ on := 0, ground := Ground.data }], guard := none }) rfl (by kernel_rfl) (by rfl) (HIT.out _ (HT6.out.keep hS)) ?_ ?_
      · (go_simp; try rfl)
      rintro e w' ⟨v7, rfl, hr7, hb7⟩
      refine ⟨_, rfl, hS.trans (hb7.mono hS.size), ?_⟩
      replace hS := hS.trans (hb7.mono hS.size)
      try simp only [Act.put, List.setIfInBounds_toArray, List.set_cons_zero, List.set_cons_succ]
      refine wpH_call 3 (oi := { dst := some 115, op := Op.call { callee := Callee.value (Operand.func 15), args := #[Operand.tmp 113, Operand.tmp 114], argTypes := #[25, 25] }, type := 4, pos := "law.go:32", after := #[{ on := 1, ground := Ground.data }, { on := 2, ground := Ground.data }, { on := 1, ground := Ground.chain }], guard := none }) rfl (by kernel_rfl) (by rfl) (HSL.out _ _ hr7.il _ (HI6.out.keep hS)) ?_ ?_
      · (go_simp; try rfl)
      rintro e w' ⟨rfl, nn, rfl⟩
      refine ⟨_, rfl, below_drewN hS nn, ?_⟩
      replace hS := below_drewN hS nn
      try simp only [Act.put, List.setIfInBounds_toArray, List.set_cons_zero, List.set_cons_succ]
      (refine wpH_pure 4 ?_ (oi := { dst := some 116, op := Op.move (Operand.tmp 115), type := 4, pos := "law.go:32", after := #[{ on := 3, ground := Ground.data }, { on := 3, ground := Ground.chain }], guard := none }) rfl (by kernel_rfl) (by kernel_rfl) (by kernel_rfl) (by rfl) hS (fun _ _ _ h => h) ?_ ?_; rotate_left; focus (intro w; go_simp; try with_reducible rfl))
      try simp only [Act.put, List.setIfInBounds_toArray, List.set_cons_zero, List.set_cons_succ]
      (first | (refine wpH_skip 5 (oi := { dst := some 117, op := Op.indexAddr 26 (Operand.tmp 4) (Operand.const (Value.int IntKind.i64 0)), type := 0, pos := "law.go:32", after := #[{ on := 4, ground := Ground.guard }], guard := some (4, true) }) rfl (by kernel_rfl) (by kernel_rfl) (by kernel_rfl) (by rfl) hS (fun _ _ _ h => h) ?_) | (refine wpH_pure 5 ?_ (oi := { dst := some 117, op := Op.indexAddr 26 (Operand.tmp 4) (Operand.const (Value.int IntKind.i64 0)), type := 0, pos := "law.go:32", after := #[{ on := 4, ground := Ground.guard }], guard := some (4, true) }) rfl (by kernel_rfl) (by kernel_rfl) (by kernel_rfl) (by rfl) hS (fun _ _ _ h => h) ?_ ?_; rotate_left; focus (intro w; go_simp; try with_reducible rfl)))
      try simp only [Act.put, List.setIfInBounds_toArray, List.set_cons_zero, List.set_cons_succ]
      refine wpH_load 6 (.string ⟨List.toArray (a)⟩) (oi := { dst := some 118, op := Op.load 9 (Operand.tmp 117), type := 9, pos := "law.go:32", after := #[{ on := 5, ground := Ground.data }, { on := 4, ground := Ground.guard }], guard := some (4, true) }) rfl (by kernel_rfl) (by kernel_rfl) (by kernel_rfl) (by rfl) hS (fun _ _ _ h => h) (fun w hb => (by have q := keepC hb c0; go_simp; try rfl)) ?_
      try simp only [Act.put, List.setIfInBounds_toArray, List.set_cons_zero, List.set_cons_succ]
      (first | (refine wpH_skip 8 (oi := { dst := some 120, op := Op.indexAddr 26 (Operand.tmp 4) (Operand.const (Value.int IntKind.i64 0)), type := 0, pos := "law.go:32", after := #[{ on := 4, ground := Ground.guard }], guard := some (4, true) }) rfl (by kernel_rfl) (by kernel_rfl) (by kernel_rfl) (by rfl) hS (fun _ _ _ h => h) ?_) | (refine wpH_pure 8 ?_ (oi := { dst := some 120, op := Op.indexAddr 26 (Operand.tmp 4) (Operand.const (Value.int IntKind.i64 0)), type := 0, pos := "law.go:32", after := #[{ on := 4, ground := Ground.guard }], guard := some (4, true) }) rfl (by kernel_rfl) (by kernel_rfl) (by kernel_rfl) (by rfl) hS (fun _ _ _ h => h) ?_ ?_; rotate_left; focus (intro w; go_simp; try with_reducible rfl)))
      try simp only [Act.put, List.setIfInBounds_toArray, List.set_cons_zero, List.set_cons_succ]
      refine wpH_load 9 (.string ⟨List.toArray (a)⟩) (oi := { dst := some 121, op := Op.load 9 (Operand.tmp 120), type := 9, pos := "law.go:32", after := #[{ on := 8, ground := Ground.data }, { on := 4, ground := Ground.guard }], guard := some (4, true) }) rfl (by kernel_rfl) (by kernel_rfl) (by kernel_rfl) (by rfl) hS (fun _ _ _ h => h) (fun w hb => (by have q := keepC hb c0; go_simp; try rfl)) ?_
      try simp only [Act.put, List.setIfInBounds_toArray, List.set_cons_zero, List.set_cons_succ]
      refine wpH_call 7 (oi := { dst := some 119, op := Op.call { callee := Callee.value (Operand.func 9), args := #[Operand.tmp 118], argTypes := #[9] }, type := 9, pos := "law.go:32", after := #[{ on := 6, ground := Ground.data }, { on := 4, ground := Ground.chain }, { on := 4, ground := Ground.guard }], guard := some (4, true) }) rfl (by kernel_rfl) (by rfl) (HBA.out a _) ?_ ?_
      · (go_simp; try rfl)
      rintro e w' ⟨rfl, hbx⟩
      refine ⟨_, rfl, hS.trans (hbx.mono hS.size), ?_⟩
      replace hS := hS.trans (hbx.mono hS.size)
      try simp only [Act.put, List.setIfInBounds_toArray, List.set_cons_zero, List.set_cons_succ]
      refine wpH_call 10 (oi := { dst := some 122, op := Op.call { callee := Callee.value (Operand.func 12), args := #[Operand.tmp 121], argTypes := #[9] }, type := 9, pos := "law.go:32", after := #[{ on := 9, ground := Ground.data }, { on := 7, ground := Ground.chain }, { on := 4, ground := Ground.guard }], guard := some (4, true) }) rfl (by kernel_rfl) (by rfl) (HBR.out a _) ?_ ?_
      · (go_simp; try rfl)
      rintro e w' ⟨rfl, hbx⟩
      refine ⟨_, rfl, hS.trans (hbx.mono hS.size), ?_⟩
      replace hS := hS.trans (hbx.mono hS.size)
      try simp only [Act.put, List.setIfInBounds_toArray, List.set_cons_zero, List.set_cons_succ]
      (first | (refine wpH_skip 11 (oi := { dst := some 123, op := Op.binOp BinOp.eql 9 (Operand.tmp 119) (Operand.tmp 122) 9, type := 4, pos := "law.go:32", after := #[{ on := 7, ground := Ground.data }, { on := 10, ground := Ground.data }, { on := 4, ground := Ground.guard }], guard := some (4, true) }) rfl (by kernel_rfl) (by kernel_rfl) (by kernel_rfl) (by rfl) hS (fun _ _ _ h => h) ?_) | (refine wpH_pure 11 ?_ (oi := { dst := some 123, op := Op.binOp BinOp.eql 9 (Operand.tmp 119) (Operand.tmp 122) 9, type := 4, pos := "law.go:32", after := #[{ on := 7, ground := Ground.data }, { on := 10, ground := Ground.data }, { on := 4, ground := Ground.guard }], guard := some (4, true) }) rfl (by kernel_rfl) (by kernel_rfl) (by kernel_rfl) (by rfl) hS (fun _ _ _ h => h) ?_ ?_; rotate_left; focus (intro w; go_simp; try with_reducible rfl)))
      try simp only [Act.put, List.setIfInBounds_toArray, List.set_cons_zero, List.set_cons_succ]
      (refine wpH_pure 12 ?_ (oi := { dst := some 124, op := Op.pick (Operand.tmp 116) (Operand.tmp 123) (Operand.const (Value.bool false)), type := 4, pos := "law.go:32", after := #[{ on := 4, ground := Ground.data }, { on := 11, ground := Ground.data }], guard := none }) rfl (by kernel_rfl) (by kernel_rfl) (by kernel_rfl) (by rfl) hS (fun _ _ _ h => h) ?_ ?_; rotate_left; focus (intro w; go_simp; try with_reducible rfl))
      try simp only [Act.put, List.setIfInBounds_toArray, List.set_cons_zero, List.set_cons_succ]
      (refine wpH_pure 13 ?_ (oi := { dst := some 125, op := Op.move (Operand.tmp 124), type := 4, pos := "law.go:32", after := #[{ on := 12, ground := Ground.data }, { on := 10, ground := Ground.chain }], guard := none }) rfl (by kernel_rfl) (by kernel_rfl) (by kernel_rfl) (by rfl) hS (fun _ _ _ h => h) ?_ ?_; rotate_left; focus (intro w; go_simp; try with_reducible rfl))
      try simp only [Act.put, List.setIfInBounds_toArray, List.set_cons_zero, List.set_cons_succ]
      (first | (refine wpH_skip 14 (oi := { dst := some 126, op := Op.indexAddr 26 (Operand.tmp 4) (Operand.const (Value.int IntKind.i64 1)), type := 0, pos := "law.go:32", after := #[{ on := 13, ground := Ground.guard }], guard := some (13, true) }) rfl (by kernel_rfl) (by kernel_rfl) (by kernel_rfl) (by rfl) hS (fun _ _ _ h => h) ?_) | (refine wpH_pure 14 ?_ (oi := { dst := some 126, op := Op.indexAddr 26 (Operand.tmp 4) (Operand.const (Value.int IntKind.i64 1)), type := 0, pos := "law.go:32", after := #[{ on := 13, ground := Ground.guard }], guard := some (13, true) }) rfl (by kernel_rfl) (by kernel_rfl) (by kernel_rfl) (by rfl) hS (fun _ _ _ h => h) ?_ ?_; rotate_left; focus (intro w; go_simp; try with_reducible rfl)))
      try simp only [Act.put, List.setIfInBounds_toArray, List.set_cons_zero, List.set_cons_succ]
      refine wpH_load 15 (.string ⟨List.toArray (b)⟩) (oi := { dst := some 127, op := Op.load 9 (Operand.tmp 126), type := 9, pos := "law.go:32", after := #[{ on := 14, ground := Ground.data }, { on := 13, ground := Ground.guard }], guard := some (13, true) }) rfl (by kernel_rfl) (by kernel_rfl) (by kernel_rfl) (by rfl) hS (fun _ _ _ h => h) (fun w hb => (by have q := keepC hb c1; go_simp; try rfl)) ?_
      try simp only [Act.put, List.setIfInBounds_toArray, List.set_cons_zero, List.set_cons_succ]
      (first | (refine wpH_skip 17 (oi := { dst := some 129, op := Op.indexAddr 26 (Operand.tmp 4) (Operand.const (Value.int IntKind.i64 1)), type := 0, pos := "law.go:32", after := #[{ on := 13, ground := Ground.guard }], guard := some (13, true) }) rfl (by kernel_rfl) (by kernel_rfl) (by kernel_rfl) (by rfl) hS (fun _ _ _ h => h) ?_) | (refine wpH_pure 17 ?_ (oi := { dst := some 129, op := Op.indexAddr 26 (Operand.tmp 4) (Operand.const (Value.int IntKind.i64 1)), type := 0, pos := "law.go:32", after := #[{ on := 13, ground := Ground.guard }], guard := some (13, true) }) rfl (by kernel_rfl) (by kernel_rfl) (by kernel_rfl) (by rfl) hS (fun _ _ _ h => h) ?_ ?_; rotate_left; focus (intro w; go_simp; try with_reducible rfl)))
      try simp only [Act.put, List.setIfInBounds_toArray, List.set_cons_zero, List.set_cons_succ]
      refine wpH_load 18 (.string ⟨List.toArray (b)⟩) (oi := { dst := some 130, op := Op.load 9 (Operand.tmp 129), type := 9, pos := "law.go:32", after := #[{ on := 17, ground := Ground.data }, { on := 13, ground := Ground.guard }], guard := some (13, true) }) rfl (by kernel_rfl) (by kernel_rfl) (by kernel_rfl) (by rfl) hS (fun _ _ _ h => h) (fun w hb => (by have q := keepC hb c1; go_simp; try rfl)) ?_
      try simp only [Act.put, List.setIfInBounds_toArray, List.set_cons_zero, List.set_cons_succ]
      refine wpH_call 16 (oi := { dst := some 128, op := Op.call { callee := Callee.value (Operand.func 9), args := #[Operand.tmp 127], argTypes := #[9] }, type := 9, pos := "law.go:32", after := #[{ on := 15, ground := Ground.data }, { on := 13, ground := Ground.chain }, { on := 13, ground := Ground.guard }], guard := some (13, true) }) rfl (by kernel_rfl) (by rfl) (HBA.out b _) ?_ ?_
      · (go_simp; try rfl)
      rintro e w' ⟨rfl, hbx⟩
      refine ⟨_, rfl, hS.trans (hbx.mono hS.size), ?_⟩
      replace hS := hS.trans (hbx.mono hS.size)
      try simp only [Act.put, List.setIfInBounds_toArray, List.set_cons_zero, List.set_cons_succ]
      refine wpH_call 19 (oi := { dst := some 131, op := Op.call { callee := Callee.value (Operand.func 12), args := #[Operand.tmp 130], argTypes := #[9] }, type := 9, pos := "law.go:32", after := #[{ on := 18, ground := Ground.data }, { on := 16, ground := Ground.chain }, { on := 13, ground := Ground.guard }], guard := some (13, true) }) rfl (by kernel_rfl) (by rfl) (HBR.out b _) ?_ ?_
      · (go_simp; try rfl)
      rintro e w' ⟨rfl, hbx⟩
      refine ⟨_, rfl, hS.trans (hbx.mono hS.size), ?_⟩
      replace hS := hS.trans (hbx.mono hS.size)
      try simp only [Act.put, List.setIfInBounds_toArray, List.set_cons_zero, List.set_cons_succ]
      (first | (refine wpH_skip 20 (oi := { dst := some 132, op := Op.binOp BinOp.eql 9 (Operand.tmp 128) (Operand.tmp 131) 9, type := 4, pos := "law.go:32", after := #[{ on := 16, ground := Ground.data }, { on := 19, ground := Ground.data }, { on := 13, ground := Ground.guard }], guard := some (13, true) }) rfl (by kernel_rfl) (by kernel_rfl) (by kernel_rfl) (by rfl) hS (fun _ _ _ h => h) ?_) | (refine wpH_pure 20 ?_ (oi := { dst := some 132, op := Op.binOp BinOp.eql 9 (Operand.tmp 128) (Operand.tmp 131) 9, type := 4, pos := "law.go:32", after := #[{ on := 16, ground := Ground.data }, { on := 19, ground := Ground.data }, { on := 13, ground := Ground.guard }], guard := some (13, true) }) rfl (by kernel_rfl) (by kernel_rfl) (by kernel_rfl) (by rfl) hS (fun _ _ _ h => h) ?_ ?_; rotate_left; focus (intro w; go_simp; try with_reducible rfl)))
      try simp only [Act.put, List.setIfInBounds_toArray, List.set_cons_zero, List.set_cons_succ]
      (refine wpH_pure 21 ?_ (oi := { dst := some 133, op := Op.pick (Operand.tmp 125) (Operand.tmp 132) (Operand.const (Value.bool false)), type := 4, pos := "law.go:32", after := #[{ on := 13, ground := Ground.data }, { on := 20, ground := Ground.data }], guard := none }) rfl (by kernel_rfl) (by kernel_rfl) (by kernel_rfl) (by rfl) hS (fun _ _ _ h => h) ?_ ?_; rotate_left; focus (intro w; go_simp; try with_reducible rfl))
      try simp only [Act.put, List.setIfInBounds_toArray, List.set_cons_zero, List.set_cons_succ]
      (refine wpH_pure 22 ?_ (oi := { dst := some 134, op := Op.move (Operand.tmp 133), type := 4, pos := "law.go:32", after := #[{ on := 21, ground := Ground.data }, { on := 19, ground := Ground.chain }], guard := none }) rfl (by kernel_rfl) (by kernel_rfl) (by kernel_rfl) (by rfl) hS (fun _ _ _ h => h) ?_ ?_; rotate_left; focus (intro w; go_simp; try with_reducible rfl))
      try simp only [Act.put, List.setIfInBounds_toArray, List.set_cons_zero, List.set_cons_succ]
      refine wpH_call 23 (oi := { dst := some 135, op := Op.call { callee := Callee.value (Operand.func 8), args := #[], argTypes := #[] }, type := 4, pos := "law.go:32", after := #[{ on := 22, ground := Ground.chain }, { on := 22, ground := Ground.guard }], guard := some (22, true) }) rfl (by kernel_rfl) (by rfl) (HW.out _ (hw6.trans (hS.mono hw6.size))) ?_ ?_
      · (go_simp; try rfl)
      rintro e w' ⟨rfl, hbx⟩
      refine ⟨_, rfl, hS.trans (hbx.mono hS.size), ?_⟩
      replace hS := hS.trans (hbx.mono hS.size)
      try simp only [Act.put, List.setIfInBounds_toArray, List.set_cons_zero, List.set_cons_succ]
      (refine wpH_pure 24 ?_ (oi := { dst := some 136, op := Op.pick (Operand.tmp 134) (Operand.tmp 135) (Operand.const (Value.bool false)), type := 4, pos := "law.go:32", after := #[{ on := 22, ground := Ground.data }, { on := 23, ground := Ground.data }], guard := none }) rfl (by kernel_rfl) (by kernel_rfl) (by kernel_rfl) (by rfl) hS (fun _ _ _ h => h) ?_ ?_; rotate_left; focus (intro w; go_simp; try with_reducible rfl))
      try simp only [Act.put, List.setIfInBounds_toArray, List.set_cons_zero, List.set_cons_succ]
      (refine wpH_pure 25 ?_ (oi := { dst := some 6, op := Op.assign (Operand.tmp 136), type := 4, pos := "law.go:32", after := #[{ on := 24, ground := Ground.data }, { on := 23, ground := Ground.chain }, { on := 0, ground := Ground.phase }, { on := 1, ground := Ground.phase }, { on := 2, ground := Ground.phase }, { on := 3, ground := Ground.phase }, { on := 4, ground := Ground.phase }, { on := 5, ground := Ground.phase }, { on := 6, ground := Ground.phase }, { on := 7, ground := Ground.phase }, { on := 8, ground := Ground.phase }, { on := 9, ground := Ground.phase }, { on := 10, ground := Ground.phase }, { on := 11, ground := Ground.phase }, { on := 12, ground := Ground.phase }, { on := 13, ground := Ground.phase }, { on := 14, ground := Ground.phase }, { on := 15, ground := Ground.phase }, { on := 16, ground := Ground.phase }, { on := 17, ground := Ground.phase }, { on := 18, ground := Ground.phase }, { on := 19, ground := Ground.phase }, { on := 20, ground := Ground.phase }, { on := 21, ground := Ground.phase }, { on := 22, ground := Ground.phase }, { on := 23, ground := Ground.phase }, { on := 24, ground := Ground.phase }], guard := none }) rfl (by kernel_rfl) (by kernel_rfl) (by kernel_rfl) (by rfl) hS (fun _ _ _ h => h) ?_ ?_; rotate_left; focus (intro w; go_simp; try with_reducible rfl))
      try simp only [Act.put, List.setIfInBounds_toArray, List.set_cons_zero, List.set_cons_succ]
      refine wpAnyH_done (by kernel_rfl) ?_ _
      all_goals (go_wp2_with fail; go_ret; exact ⟨rfl, hw6.trans (hS.mono hw6.size)⟩)
    · exact absurd hc0 h.1
  · obtain ⟨hc0, rfl⟩ := h
    have hw1 := Hb0.out.trans (hb1.mono Hb0.out.size)
    have HB1 := Lib.hid (HB0.out.keep hb1)
    clear HB0 Hb0 hb1 HRO
    go_wp2_with fail
    refine (HO.out w1 hw1).mono ?_
    rintro e w2 ⟨hb2, h | h⟩
    · exact absurd h.1 hc0
    · obtain ⟨_, rfl⟩ := h
      have hw2 := hw1.trans (hb2.mono hw1.size)
      have B2 := HB1.out.keep hb2
      have c0 := B2.cell 0
      have q2 := B2.lt
      have d0 : ((ofI [] l).2 == 0) = false := by simpa using hc0
      have d0' : ((ofI [] l).2 != 0) = true := by simpa using hc0
      clear hc0 HB1 HO hb2 B2
      generalize (ofI [] l).2 = cd at *
      go_wp2_with fail
      refine wpH_start (by kernel_rfl) (fun hS => ?_)
      (refine wpH_pure 0 ?_ (oi := { dst := some 48, op := Op.indexAddr 26 (Operand.tmp 4) (Operand.const (Value.int IntKind.i64 0)), type := 0, pos := "law.go:24", after := #[], guard := none }) rfl (by kernel_rfl) (by kernel_rfl) (by kernel_rfl) (by rfl) hS (fun _ _ _ h => h) ?_ ?_; rotate_left; focus (intro w; go_simp; try with_reducible rfl))
      try simp only [Act.put, List.setIfInBounds_toArray, List.set_cons_zero, List.set_cons_succ]
      refine wpH_load 1 (.string ⟨List.toArray (a)⟩) (oi := { dst := some 49, op := Op.load 9 (Operand.tmp 48), type := 9, pos := "law.go:24", after := #[{ on := 0, ground := Ground.data }], guard := none }) rfl (by kernel_rfl) (by kernel_rfl) (by kernel_rfl) (by rfl) hS (fun _ _ _ h => h) (fun w hb => (by have q := keepC hb c0; go_simp; try rfl)) ?_
      try simp only [Act.put, List.setIfInBounds_toArray, List.set_cons_zero, List.set_cons_succ]
      (refine wpH_pure 3 ?_ (oi := { dst := some 51, op := Op.indexAddr 26 (Operand.tmp 4) (Operand.const (Value.int IntKind.i64 0)), type := 0, pos := "law.go:24", after := #[], guard := none }) rfl (by kernel_rfl) (by kernel_rfl) (by kernel_rfl) (by rfl) hS (fun _ _ _ h => h) ?_ ?_; rotate_left; focus (intro w; go_simp; try with_reducible rfl))
      try simp only [Act.put, List.setIfInBounds_toArray, List.set_cons_zero, List.set_cons_succ]
      refine wpH_load 4 (.string ⟨List.toArray (a)⟩) (oi := { dst := some 52, op := Op.load 9 (Operand.tmp 51), type := 9, pos := "law.go:24", after := #[{ on := 3, ground := Ground.data }], guard := none }) rfl (by kernel_rfl) (by kernel_rfl) (by kernel_rfl) (by rfl) hS (fun _ _ _ h => h) (fun w hb => (by have q := keepC hb c0; go_simp; try rfl)) ?_
      try simp only [Act.put, List.setIfInBounds_toArray, List.set_cons_zero, List.set_cons_succ]
      refine wpH_call 2 (oi := { dst := some 50, op := Op.call { callee := Callee.value (Operand.func 9), args := #[Operand.tmp 49], argTypes := #[9] }, type := 9, pos := "law.go:24", after := #[{ on := 1, ground := Ground.data }], guard := none }) rfl (by kernel_rfl) (by rfl) (HBA.out a _) ?_ ?_
      · (go_simp; try rfl)
      rintro e w' ⟨rfl, hbx⟩
      refine ⟨_, rfl, hS.trans (hbx.mono hS.size), ?_⟩
      replace hS := hS.trans (hbx.mono hS.size)
      try simp only [Act.put, List.setIfInBounds_toArray, List.set_cons_zero, List.set_cons_succ]
      refine wpH_call 5 (oi := { dst := some 53, op := Op.call { callee := Callee.value (Operand.func 12), args := #[Operand.tmp 52], argTypes := #[9] }, type := 9, pos := "law.go:24", after := #[{ on := 4, ground := Ground.data }, { on := 2, ground := Ground.chain }], guard := none }) rfl (by kernel_rfl) (by rfl) (HBR.out a _) ?_ ?_
      · (go_simp; try rfl)
      rintro e w' ⟨rfl, hbx⟩
      refine ⟨_, rfl, hS.trans (hbx.mono hS.size), ?_⟩
      replace hS := hS.trans (hbx.mono hS.size)
      try simp only [Act.put, List.setIfInBounds_toArray, List.set_cons_zero, List.set_cons_succ]
      (refine wpH_pure 6 ?_ (oi := { dst := some 54, op := Op.binOp BinOp.eql 9 (Operand.tmp 50) (Operand.tmp 53) 9, type := 4, pos := "law.go:24", after := #[{ on := 2, ground := Ground.data }, { on := 5, ground := Ground.data }], guard := none }) rfl (by kernel_rfl) (by kernel_rfl) (by kernel_rfl) (by rfl) hS (fun _ _ _ h => h) ?_ ?_; rotate_left; focus (intro w; go_simp; try with_reducible rfl))
      try simp only [Act.put, List.setIfInBounds_toArray, List.set_cons_zero, List.set_cons_succ]
      (refine wpH_pure 7 ?_ (oi := { dst := some 55, op := Op.move (Operand.tmp 54), type := 4, pos := "law.go:24", after := #[{ on := 6, ground := Ground.data }, { on := 5, ground := Ground.chain }], guard := none }) rfl (by kernel_rfl) (by kernel_rfl) (by kernel_rfl) (by rfl) hS (fun _ _ _ h => h) ?_ ?_; rotate_left; focus (intro w; go_simp; try with_reducible rfl))
      try simp only [Act.put, List.setIfInBounds_toArray, List.set_cons_zero, List.set_cons_succ]
      refine wpH_call 8 (oi := { dst := some 56, op := Op.call { callee := Callee.value (Operand.func 8), args := #[], argTypes := #[] }, type := 4, pos := "law.go:24", after := #[{ on := 7, ground := Ground.chain }, { on := 7, ground := Ground.guard }], guard := some (7, true) }) rfl (by kernel_rfl) (by rfl) (HW.out _ (hw2.trans (hS.mono hw2.size))) ?_ ?_
      · (go_simp; try rfl)
      rintro e w' ⟨rfl, hbx⟩
      refine ⟨_, rfl, hS.trans (hbx.mono hS.size), ?_⟩
      replace hS := hS.trans (hbx.mono hS.size)
      try simp only [Act.put, List.setIfInBounds_toArray, List.set_cons_zero, List.set_cons_succ]
      (refine wpH_pure 9 ?_ (oi := { dst := some 57, op := Op.pick (Operand.tmp 55) (Operand.tmp 56) (Operand.const (Value.bool false)), type := 4, pos := "law.go:24", after := #[{ on := 7, ground := Ground.data }, { on := 8, ground := Ground.data }], guard := none }) rfl (by kernel_rfl) (by kernel_rfl) (by kernel_rfl) (by rfl) hS (fun _ _ _ h => h) ?_ ?_; rotate_left; focus (intro w; go_simp; try with_reducible rfl))
      try simp only [Act.put, List.setIfInBounds_toArray, List.set_cons_zero, List.set_cons_succ]
      (refine wpH_pure 10 ?_ (oi := { dst := some 6, op := Op.assign (Operand.tmp 57), type := 4, pos := "law.go:24", after := #[{ on := 9, ground := Ground.data }, { on := 8, ground := Ground.chain }, { on := 0, ground := Ground.phase }, { on := 1, ground := Ground.phase }, { on := 2, ground := Ground.phase }, { on := 3, ground := Ground.phase }, { on := 4, ground := Ground.phase }, { on := 5, ground := Ground.phase }, { on := 6, ground := Ground.phase }, { on := 7, ground := Ground.phase }, { on := 8, ground := Ground.phase }, { on := 9, ground := Ground.phase }], guard := none }) rfl (by kernel_rfl) (by kernel_rfl) (by kernel_rfl) (by rfl) hS (fun _ _ _ h => h) ?_ ?_; rotate_left; focus (intro w; go_simp; try with_reducible rfl))
      try simp only [Act.put, List.setIfInBounds_toArray, List.set_cons_zero, List.set_cons_succ]
      refine wpAnyH_done (by kernel_rfl) ?_ _
      all_goals (go_wp2_with fail; go_ret; exact ⟨rfl, hw2.trans (hS.mono hw2.size)⟩)
end Go.Proofs.YtdaihimdkgmboaaDoor
