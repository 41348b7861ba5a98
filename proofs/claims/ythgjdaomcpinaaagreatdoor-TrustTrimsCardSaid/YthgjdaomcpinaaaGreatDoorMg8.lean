/- HeadC, HeadS. -/
import Derived.Test.YthgjdaomcpinaaaGreatDoorMg6
import Derived.Test.YthgjdaomcpinaaaGreatDoorMg7
set_option linter.unnecessarySimpa false

/- May a header be? The program's walk. -/
set_option linter.unusedSimpArgs false
set_option linter.unusedVariables false
namespace Go.Proofs.YthgjdaomcpinaaaGreatDoor
open Go.RowKit Go.Shelf Pl

theorem hd_sum (s : Bs) (w : World) : Calls Tryz.prog 148 #[.string ⟨List.toArray (s)⟩] w fun e w' => e = .returned (.bool (decide (s.length = 32))) ∧ w' = w := by
  by_cases h : s.length = 32
  · have h1 : decide (s.length = 32) = true := by simpa using h
    have h2 : ((s.length : Int) == 32) = true := by simp; omega
    have h3 : decide ((s.length : Int) = 32) = true := by simp; omega
    rw [h1]
    clear h1
    go_enter Tryz.func148, Tryz.ntmps148
    go_wp2_with fail
    go_ret
    exact ⟨by first | rfl | (exact ret_bool (by simp; omega)), rfl⟩
  · have h1 : decide (s.length = 32) = false := by simpa using h
    have h2 : ((s.length : Int) == 32) = false := by simp; omega
    have h3 : decide ((s.length : Int) = 32) = false := by simp; omega
    rw [h1]
    clear h1
    go_enter Tryz.func148, Tryz.ntmps148
    go_wp2_with fail
    go_ret
    exact ⟨by first | rfl | (exact ret_bool (by simp; omega)), rfl⟩
theorem hd_maybe (s : Bs) (w : World) : Calls Tryz.prog 151 #[.string ⟨List.toArray (s)⟩] w fun e w' => e = .returned (.bool (may32 s)) ∧ w' = w := by
  have hs := fun W => hd_sum s W
  unfold may32
  by_cases h : s = []
  · subst h
    go_enter Tryz.func151, Tryz.ntmps151
    go_wp2_with fail
    go_ret
    exact ⟨rfl, rfl⟩
  · have h1 : decide (s = []) = false := by simpa using h
    have h2 : s.isEmpty = false := by simpa using h
    have h3 : (s == []) = false := by simpa using h
    rw [h1, Bool.false_or]
    clear h1 h
    generalize decide (s.length = 32) = x at *
    go_enter Tryz.func151, Tryz.ntmps151
    go_wp2_with fail
    refine (hs _).mono ?_
    rintro e w1 ⟨rfl, rfl⟩
    go_wp2_with fail
    go_ret
    exact ⟨rfl, rfl⟩
theorem hd_in (n most : Int) (w : World) : Calls Tryz.prog 147 #[.int .i64 (n), .int .i64 (most)] w fun e w' => e = .returned (.bool (inH n most)) ∧ w' = w := by
  unfold inH
  by_cases h : 0 ≤ n
  · have h1 : decide (0 ≤ n) = true := by simpa using h
    rw [h1, Bool.true_and]
    clear h
    by_cases h2 : n ≤ most
    · have h3 : decide (n ≤ most) = true := by simpa using h2
      rw [h3]
      clear h2
      go_enter Tryz.func147, Tryz.ntmps147
      go_wp2_with fail
      go_ret
      exact ⟨rfl, rfl⟩
    · have h3 : decide (n ≤ most) = false := by simpa using h2
      rw [h3]
      clear h2
      go_enter Tryz.func147, Tryz.ntmps147
      go_wp2_with fail
      go_ret
      exact ⟨rfl, rfl⟩
  · have h1 : decide (0 ≤ n) = false := by simpa using h
    rw [h1, Bool.false_and]
    clear h
    go_enter Tryz.func147, Tryz.ntmps147
    go_wp2_with fail
    go_ret
    exact ⟨rfl, rfl⟩
set_option maxRecDepth 100000 in
set_option maxHeartbeats 1000000 in
theorem hd_numbers (a1 a2 a3 : Int) (lb : Bool) (pa st rc tx me ne : Bs) (sk : Value) (w : World) :
    Calls Tryz.prog 118 #[.agg #[.int .i64 (a1), .int .i64 (a2), .int .i64 (a3), .bool lb, .string ⟨List.toArray (pa)⟩, .string ⟨List.toArray (st)⟩, .string ⟨List.toArray (rc)⟩, .string ⟨List.toArray (tx)⟩, .string ⟨List.toArray (me)⟩, .string ⟨List.toArray (ne)⟩, sk]] w fun e w' => e = .returned (.bool (inH a1 1048576 && inH a2 1048576 && inH a3 1048576)) ∧ Below w.heap.size w w' := by
  have hb0 : Below w.heap.size w (w.alloc (.cells #[.int .i64 (a1), .int .i64 (a2), .int .i64 (a3), .bool lb, .string ⟨List.toArray (pa)⟩, .string ⟨List.toArray (st)⟩, .string ⟨List.toArray (rc)⟩, .string ⟨List.toArray (tx)⟩, .string ⟨List.toArray (me)⟩, .string ⟨List.toArray (ne)⟩, sk] 24)) := Below.allocS (Below.refl _ _) _
  have B0 : Blk (w.alloc (.cells #[.int .i64 (a1), .int .i64 (a2), .int .i64 (a3), .bool lb, .string ⟨List.toArray (pa)⟩, .string ⟨List.toArray (st)⟩, .string ⟨List.toArray (rc)⟩, .string ⟨List.toArray (tx)⟩, .string ⟨List.toArray (me)⟩, .string ⟨List.toArray (ne)⟩, sk] 24)) w.heap.size #[.int .i64 (a1), .int .i64 (a2), .int .i64 (a3), .bool lb, .string ⟨List.toArray (pa)⟩, .string ⟨List.toArray (st)⟩, .string ⟨List.toArray (rc)⟩, .string ⟨List.toArray (tx)⟩, .string ⟨List.toArray (me)⟩, .string ⟨List.toArray (ne)⟩, sk] := Blk.new _ _ _
  obtain ⟨b1, b2, b3⟩ := id B0
  have q1 := fun W => hd_in a1 1048576 W
  have q2 := fun W => hd_in a2 1048576 W
  have q3 := fun W => hd_in a3 1048576 W
  generalize inH a1 1048576 = x1 at *
  generalize inH a2 1048576 = x2 at *
  generalize inH a3 1048576 = x3 at *
  clear B0
  cases x1
  · go_enter Tryz.func118, Tryz.ntmps118
    go_wp2_with fail
    refine (q1 _).mono ?_
    rintro e w1 ⟨rfl, rfl⟩
    go_wp2_with fail
    go_ret
    exact ⟨rfl, hb0⟩
  · cases x2
    · go_enter Tryz.func118, Tryz.ntmps118
      go_wp2_with fail
      refine (q1 _).mono ?_
      rintro e w1 ⟨rfl, rfl⟩
      go_wp2_with fail
      refine (q2 _).mono ?_
      rintro e w1 ⟨rfl, rfl⟩
      go_wp2_with fail
      go_ret
      exact ⟨rfl, hb0⟩
    · go_enter Tryz.func118, Tryz.ntmps118
      go_wp2_with fail
      refine (q1 _).mono ?_
      rintro e w1 ⟨rfl, rfl⟩
      go_wp2_with fail
      refine (q2 _).mono ?_
      rintro e w1 ⟨rfl, rfl⟩
      go_wp2_with fail
      refine (q3 _).mono ?_
      rintro e w1 ⟨rfl, rfl⟩
      go_wp2_with fail
      go_ret
      exact ⟨rfl, hb0⟩
set_option maxRecDepth 100000 in
set_option maxHeartbeats 1000000 in
theorem hd_first (a1 a2 a3 : Int) (lb : Bool) (pa st rc tx me ne : Bs) (K : List Bs) (sk : Value) (w : World) :
    Calls Tryz.prog 119 #[.agg #[.int .i64 (a1), .int .i64 (a2), .int .i64 (a3), .bool lb, .string ⟨List.toArray (pa)⟩, .string ⟨List.toArray (st)⟩, .string ⟨List.toArray (rc)⟩, .string ⟨List.toArray (tx)⟩, .string ⟨List.toArray (me)⟩, .string ⟨List.toArray (ne)⟩, sk]] w fun e w' => e = .returned (.bool (firstH ⟨a1, a2, a3, lb, pa, st, rc, tx, me, ne, K⟩)) ∧ Below w.heap.size w w' := by
  have hb0 : Below w.heap.size w (w.alloc (.cells #[.int .i64 (a1), .int .i64 (a2), .int .i64 (a3), .bool lb, .string ⟨List.toArray (pa)⟩, .string ⟨List.toArray (st)⟩, .string ⟨List.toArray (rc)⟩, .string ⟨List.toArray (tx)⟩, .string ⟨List.toArray (me)⟩, .string ⟨List.toArray (ne)⟩, sk] 24)) := Below.allocS (Below.refl _ _) _
  have B0 : Blk (w.alloc (.cells #[.int .i64 (a1), .int .i64 (a2), .int .i64 (a3), .bool lb, .string ⟨List.toArray (pa)⟩, .string ⟨List.toArray (st)⟩, .string ⟨List.toArray (rc)⟩, .string ⟨List.toArray (tx)⟩, .string ⟨List.toArray (me)⟩, .string ⟨List.toArray (ne)⟩, sk] 24)) w.heap.size #[.int .i64 (a1), .int .i64 (a2), .int .i64 (a3), .bool lb, .string ⟨List.toArray (pa)⟩, .string ⟨List.toArray (st)⟩, .string ⟨List.toArray (rc)⟩, .string ⟨List.toArray (tx)⟩, .string ⟨List.toArray (me)⟩, .string ⟨List.toArray (ne)⟩, sk] := Blk.new _ _ _
  obtain ⟨b1, b2, b3⟩ := id B0
  clear B0
  unfold firstH
  simp only
  by_cases h1 : 0 < a1
  · have q1 := fun W => hd_sum pa W
    have d1 : decide (0 < a1) = true := by simpa using h1
    rw [if_pos h1]
    clear h1
    generalize decide (pa.length = 32) = x1 at *
    go_enter Tryz.func119, Tryz.ntmps119
    go_wp2_with fail
    refine (q1 _).mono ?_
    rintro e w1 ⟨rfl, rfl⟩
    go_wp2_with fail
    go_ret
    exact ⟨rfl, hb0⟩
  · have d1 : decide (0 < a1) = false := by simpa using h1
    rw [if_neg h1]
    clear h1
    by_cases h2 : pa = []
    · subst h2
      by_cases h3 : a2 = 0
      · subst h3
        by_cases h4 : a3 = 0
        · subst h4
          simp only [decide_true, Bool.true_and]
          go_enter Tryz.func119, Tryz.ntmps119
          go_wp2_with fail
          go_ret
          exact ⟨rfl, hb0⟩
        · have e1 : (a3 == 0) = false := by simpa using h4
          have e2 : decide (a3 = 0) = false := by simpa using h4
          rw [e2, Bool.and_false, Bool.false_and]
          clear h4
          go_enter Tryz.func119, Tryz.ntmps119
          go_wp2_with fail
          go_ret
          exact ⟨rfl, hb0⟩
      · have e1 : (a2 == 0) = false := by simpa using h3
        have e2 : decide (a2 = 0) = false := by simpa using h3
        rw [e2, Bool.and_false, Bool.false_and, Bool.false_and]
        clear h3
        go_enter Tryz.func119, Tryz.ntmps119
        go_wp2_with fail
        go_ret
        exact ⟨rfl, hb0⟩
    · have e1 : decide (pa = []) = false := by simpa using h2
      have e2 : pa.isEmpty = false := by simpa using h2
      have e3 : (pa == []) = false := by simpa using h2
      rw [e1, Bool.false_and, Bool.false_and, Bool.false_and]
      clear h2
      go_enter Tryz.func119, Tryz.ntmps119
      go_wp2_with fail
      go_ret
      exact ⟨rfl, hb0⟩
/-- Is one of them no sum? -/
def oddS (l : List Bs) : Bool := l.any (fun s => !decide (s.length = 32))
theorem odd_all (l : List Bs) : (!oddS l) = l.all (fun s => decide (s.length = 32)) := by
  unfold oddS
  rw [List.not_any_eq_all_not]
  simp
theorem hd_odd (s : Bs) (w : World) : Calls Tryz.prog 149 #[.string ⟨List.toArray (s)⟩] w fun e w' => e = .returned (.bool (!decide (s.length = 32))) ∧ w' = w := by
  have q1 := fun W => hd_sum s W
  generalize decide (s.length = 32) = x at *
  go_enter Tryz.func149, Tryz.ntmps149
  go_wp2_with fail
  refine (q1 _).mono ?_
  rintro e w1 ⟨rfl, rfl⟩
  go_wp2_with fail
  go_ret
  exact ⟨rfl, rfl⟩
theorem contains_any (v : Value) (l : List Bs) (w : World) (hv : SS w v l) :
    Calls Tryz.prog 150 #[v, .func (.func 149) #[] #[]] w fun e w' => e = .returned (.bool (oddS l)) ∧ ∃ q, w' = w.drewN q := by
  obtain ⟨a, cap, rfl, h1, h2, h3⟩ := hv
  by_cases hl : l = []
  · subst hl
    refine (AnyE.slices_ContainsFunc_empty laysCont a cap _ w).mono ?_
    rintro e w' ⟨rfl, rfl⟩
    exact ⟨rfl, 0, rfl⟩
  · obtain ⟨g, off, rfl, hg, hc⟩ := h3 hl
    have := AnyE.slices_ContainsFunc laysCont (fun s : Bs => .string ⟨List.toArray (s)⟩) (fun s => !decide (s.length = 32)) 149 #[] (enters_of (Tryz.func149) (by decide) rfl) g off l.length cap l w (fun W x _ => (hd_odd x W).mono (fun e w' ⟨h, h'⟩ => ⟨h, 0, h'⟩)) (Nat.le_refl _) (by unfold maxLen at h2; omega) (fun j hj => by
      rw [hc j hj]
      simp [List.getD, hj])
    rw [List.take_length] at this
    exact this
end Go.Proofs.YthgjdaomcpinaaaGreatDoor

/- May a header be? The program's walk: sums, Check. -/
set_option linter.unusedSimpArgs false
set_option linter.unusedVariables false
namespace Go.Proofs.YthgjdaomcpinaaaGreatDoor
open Go.RowKit Go.Shelf Pl

set_option maxRecDepth 100000 in
set_option maxHeartbeats 4000000 in
theorem hd_sums (a1 a2 a3 : Int) (lb : Bool) (pa st rc tx me ne : Bs) (K : List Bs) (sk : Value) (w : World) (hk : SS w sk K) :
    Calls Tryz.prog 120 #[.agg #[.int .i64 (a1), .int .i64 (a2), .int .i64 (a3), .bool lb, .string ⟨List.toArray (pa)⟩, .string ⟨List.toArray (st)⟩, .string ⟨List.toArray (rc)⟩, .string ⟨List.toArray (tx)⟩, .string ⟨List.toArray (me)⟩, .string ⟨List.toArray (ne)⟩, sk]] w fun e w' => e = .returned (.bool (sumsH ⟨a1, a2, a3, lb, pa, st, rc, tx, me, ne, K⟩)) ∧ Below w.heap.size w w' := by
  obtain ⟨ka, kc, rfl⟩ := hk.form
  have HK := Lib.hid hk
  have HKS := Lib.hid hk.small
  generalize hsk : Value.slice ka K.length kc = sk at *
  have hb0 : Below w.heap.size w (w.alloc (.cells #[.int .i64 (a1), .int .i64 (a2), .int .i64 (a3), .bool lb, .string ⟨List.toArray (pa)⟩, .string ⟨List.toArray (st)⟩, .string ⟨List.toArray (rc)⟩, .string ⟨List.toArray (tx)⟩, .string ⟨List.toArray (me)⟩, .string ⟨List.toArray (ne)⟩, sk] 24)) := Below.allocS (Below.refl _ _) _
  have B0 : Blk (w.alloc (.cells #[.int .i64 (a1), .int .i64 (a2), .int .i64 (a3), .bool lb, .string ⟨List.toArray (pa)⟩, .string ⟨List.toArray (st)⟩, .string ⟨List.toArray (rc)⟩, .string ⟨List.toArray (tx)⟩, .string ⟨List.toArray (me)⟩, .string ⟨List.toArray (ne)⟩, sk] 24)) w.heap.size #[.int .i64 (a1), .int .i64 (a2), .int .i64 (a3), .bool lb, .string ⟨List.toArray (pa)⟩, .string ⟨List.toArray (st)⟩, .string ⟨List.toArray (rc)⟩, .string ⟨List.toArray (tx)⟩, .string ⟨List.toArray (me)⟩, .string ⟨List.toArray (ne)⟩, sk] := Blk.new _ _ _
  obtain ⟨b1, b2, b3⟩ := id B0
  have hcn := fun W (hb : Below w.heap.size w W) => contains_any sk K W (HK.out.keep hb)
  have HOA := Lib.hid (odd_all K)
  unfold sumsH endH
  simp only
  rw [← HOA.out]
  have HLF := Lib.hid (linksF_len a1)
  have hsk2 := hsk
  subst hsk
  clear hk HOA
  have q1 := fun W => hd_sum tx W
  have q2 := fun W => hd_sum me W
  have q3 := fun W => hd_sum ne W
  have q4 := fun W => hd_maybe st W
  have q5 := fun W => hd_maybe rc W
  generalize decide (tx.length = 32) = x1 at *
  generalize decide (me.length = 32) = x2 at *
  generalize decide (ne.length = 32) = x3 at *
  generalize may32 st = x4 at *
  generalize may32 rc = x5 at *
  by_cases h1 : 0 < a1
  · have d1 : decide (0 < a1) = true := by simpa using h1
    rw [if_pos h1]
    clear h1
    have hli := fun W => links_any a1 W
    generalize linksF a1 = LK at *
    generalize oddS K = xo at *
    by_cases hle : K.length = LK.length
    · have e1 : ((K.length : Int) == (LK.length : Int)) = true := by simp; omega
      have e2 : decide (K.length = LK.length) = true := by simpa using hle
      have e3 : decide ((K.length : Int) = (LK.length : Int)) = true := by simp; omega
      rw [e2, Bool.true_and]
      clear hle
      cases xo
      · simp only [Bool.not_false, Bool.true_and]
        go_enter Tryz.func120, Tryz.ntmps120
        go_wp2_with fail
        refine wpH_start (by kernel_rfl) (fun hS => ?_)
        (refine wpH_pure 0 ?_ (oi := { dst := some 14, op := Op.fieldAddr 24 (Operand.tmp 1) 10, type := 0, pos := "header.go:37", after := #[], guard := none }) rfl (by kernel_rfl) (by kernel_rfl) (by kernel_rfl) (by rfl) hS (fun _ _ _ h => h) ?_ ?_; rotate_left; focus (intro w; go_simp; try with_reducible rfl))
        try simp only [Act.put, List.setIfInBounds_toArray, List.set_cons_zero, List.set_cons_succ]
        refine wpH_load 1 (.slice ka K.length kc) (oi := { dst := some 15, op := Op.load 22 (Operand.tmp 14), type := 22, pos := "header.go:37", after := #[{ on := 0, ground := Ground.data }], guard := none }) rfl (by kernel_rfl) (by kernel_rfl) (by kernel_rfl) (by rfl) hS (fun _ _ _ h => h) (fun w hb2 => (by have c := (B0.keep hb2).cell 10; go_simp; try rfl)) ?_
        try simp only [Act.put, List.setIfInBounds_toArray, List.set_cons_zero, List.set_cons_succ]
        (refine wpH_pure 2 ?_ (oi := { dst := some 16, op := Op.call { callee := Callee.builtin Builtin.len, args := #[Operand.tmp 15], argTypes := #[22] }, type := 3, pos := "header.go:37", after := #[{ on := 1, ground := Ground.data }], guard := none }) rfl (by kernel_rfl) (by kernel_rfl) (by kernel_rfl) (by rfl) hS (fun _ _ _ h => h) ?_ ?_; rotate_left; focus (intro w; go_simp; try with_reducible rfl))
        try simp only [Act.put, List.setIfInBounds_toArray, List.set_cons_zero, List.set_cons_succ]
        (refine wpH_pure 3 ?_ (oi := { dst := some 17, op := Op.fieldAddr 24 (Operand.tmp 1) 0, type := 0, pos := "header.go:37", after := #[], guard := none }) rfl (by kernel_rfl) (by kernel_rfl) (by kernel_rfl) (by rfl) hS (fun _ _ _ h => h) ?_ ?_; rotate_left; focus (intro w; go_simp; try with_reducible rfl))
        try simp only [Act.put, List.setIfInBounds_toArray, List.set_cons_zero, List.set_cons_succ]
        refine wpH_load 4 (.int .i64 (a1)) (oi := { dst := some 18, op := Op.load 3 (Operand.tmp 17), type := 3, pos := "header.go:37", after := #[{ on := 3, ground := Ground.data }], guard := none }) rfl (by kernel_rfl) (by kernel_rfl) (by kernel_rfl) (by rfl) hS (fun _ _ _ h => h) (fun w hb2 => (by have c := (B0.keep hb2).cell 0; go_simp; try rfl)) ?_
        try simp only [Act.put, List.setIfInBounds_toArray, List.set_cons_zero, List.set_cons_succ]
        refine wpH_call 5 (oi := { dst := some 19, op := Op.call { callee := Callee.value (Operand.func 106), args := #[Operand.tmp 18], argTypes := #[3] }, type := 51, pos := "header.go:37", after := #[{ on := 4, ground := Ground.data }], guard := none }) rfl (by kernel_rfl) (by rfl) (hli _) ?_ ?_
        · (go_simp; try rfl)
        rintro e w' ⟨vl, rfl, hzl, hbx⟩
        refine ⟨_, rfl, hS.trans (hbx.mono hS.size), ?_⟩
        replace hS := hS.trans (hbx.mono hS.size)
        obtain ⟨za, zc, rfl⟩ := hzl.form
        try simp only [Act.put, List.setIfInBounds_toArray, List.set_cons_zero, List.set_cons_succ]
        (refine wpH_pure 6 ?_ (oi := { dst := some 20, op := Op.call { callee := Callee.builtin Builtin.len, args := #[Operand.tmp 19], argTypes := #[51] }, type := 3, pos := "header.go:37", after := #[{ on := 5, ground := Ground.data }], guard := none }) rfl (by kernel_rfl) (by kernel_rfl) (by kernel_rfl) (by rfl) hS (fun _ _ _ h => h) ?_ ?_; rotate_left; focus (intro w; go_simp; try with_reducible rfl))
        try simp only [Act.put, List.setIfInBounds_toArray, List.set_cons_zero, List.set_cons_succ]
        (refine wpH_pure 7 ?_ (oi := { dst := some 21, op := Op.binOp BinOp.eql 3 (Operand.tmp 16) (Operand.tmp 20) 3, type := 4, pos := "header.go:37", after := #[{ on := 2, ground := Ground.data }, { on := 6, ground := Ground.data }], guard := none }) rfl (by kernel_rfl) (by kernel_rfl) (by kernel_rfl) (by rfl) hS (fun _ _ _ h => h) ?_ ?_; rotate_left; focus (intro w; go_simp; try with_reducible rfl))
        try simp only [Act.put, List.setIfInBounds_toArray, List.set_cons_zero, List.set_cons_succ]
        (refine wpH_pure 8 ?_ (oi := { dst := some 22, op := Op.move (Operand.tmp 21), type := 4, pos := "header.go:37", after := #[{ on := 7, ground := Ground.data }, { on := 5, ground := Ground.chain }], guard := none }) rfl (by kernel_rfl) (by kernel_rfl) (by kernel_rfl) (by rfl) hS (fun _ _ _ h => h) ?_ ?_; rotate_left; focus (intro w; go_simp; try with_reducible rfl))
        try simp only [Act.put, List.setIfInBounds_toArray, List.set_cons_zero, List.set_cons_succ]
        (first | (refine wpH_skip 9 (oi := { dst := some 23, op := Op.fieldAddr 24 (Operand.tmp 1) 10, type := 0, pos := "header.go:37", after := #[{ on := 8, ground := Ground.guard }], guard := some (8, true) }) rfl (by kernel_rfl) (by kernel_rfl) (by kernel_rfl) (by rfl) hS (fun _ _ _ h => h) ?_) | (refine wpH_pure 9 ?_ (oi := { dst := some 23, op := Op.fieldAddr 24 (Operand.tmp 1) 10, type := 0, pos := "header.go:37", after := #[{ on := 8, ground := Ground.guard }], guard := some (8, true) }) rfl (by kernel_rfl) (by kernel_rfl) (by kernel_rfl) (by rfl) hS (fun _ _ _ h => h) ?_ ?_; rotate_left; focus (intro w; go_simp; try with_reducible rfl)))
        try simp only [Act.put, List.setIfInBounds_toArray, List.set_cons_zero, List.set_cons_succ]
        refine wpH_load 10 (.slice ka K.length kc) (oi := { dst := some 24, op := Op.load 22 (Operand.tmp 23), type := 22, pos := "header.go:37", after := #[{ on := 9, ground := Ground.data }, { on := 8, ground := Ground.guard }], guard := some (8, true) }) rfl (by kernel_rfl) (by kernel_rfl) (by kernel_rfl) (by rfl) hS (fun _ _ _ h => h) (fun w hb2 => (by have c := (B0.keep hb2).cell 10; go_simp; try rfl)) ?_
        try simp only [Act.put, List.setIfInBounds_toArray, List.set_cons_zero, List.set_cons_succ]
        (first | (refine wpH_skip 11 (oi := { dst := some 25, op := Op.move (Operand.tmp 3), type := 123, pos := "header.go:37", after := #[{ on := 8, ground := Ground.guard }], guard := some (8, true) }) rfl (by kernel_rfl) (by kernel_rfl) (by kernel_rfl) (by rfl) hS (fun _ _ _ h => h) ?_) | (refine wpH_pure 11 ?_ (oi := { dst := some 25, op := Op.move (Operand.tmp 3), type := 123, pos := "header.go:37", after := #[{ on := 8, ground := Ground.guard }], guard := some (8, true) }) rfl (by kernel_rfl) (by kernel_rfl) (by kernel_rfl) (by rfl) hS (fun _ _ _ h => h) ?_ ?_; rotate_left; focus (intro w; go_simp; try with_reducible rfl)))
        try simp only [Act.put, List.setIfInBounds_toArray, List.set_cons_zero, List.set_cons_succ]
        refine wpH_call 12 (oi := { dst := some 26, op := Op.call { callee := Callee.value (Operand.func 150), args := #[Operand.tmp 24, Operand.tmp 25], argTypes := #[22, 123] }, type := 4, pos := "header.go:37", after := #[{ on := 10, ground := Ground.data }, { on := 11, ground := Ground.data }, { on := 8, ground := Ground.chain }, { on := 8, ground := Ground.guard }], guard := some (8, true) }) rfl (by kernel_rfl) (by rfl) (hcn _ (hb0.trans (hS.mono hb0.size))) ?_ ?_
        · (go_simp; try rfl)
        rintro e w' ⟨rfl, nn, rfl⟩
        refine ⟨_, rfl, below_drewN hS nn, ?_⟩
        replace hS := below_drewN hS nn
        try simp only [Act.put, List.setIfInBounds_toArray, List.set_cons_zero, List.set_cons_succ]
        (first | (refine wpH_skip 13 (oi := { dst := some 27, op := Op.unOp UnOp.not 4 (Operand.tmp 26), type := 4, pos := "header.go:37", after := #[{ on := 12, ground := Ground.data }, { on := 8, ground := Ground.guard }], guard := some (8, true) }) rfl (by kernel_rfl) (by kernel_rfl) (by kernel_rfl) (by rfl) hS (fun _ _ _ h => h) ?_) | (refine wpH_pure 13 ?_ (oi := { dst := some 27, op := Op.unOp UnOp.not 4 (Operand.tmp 26), type := 4, pos := "header.go:37", after := #[{ on := 12, ground := Ground.data }, { on := 8, ground := Ground.guard }], guard := some (8, true) }) rfl (by kernel_rfl) (by kernel_rfl) (by kernel_rfl) (by rfl) hS (fun _ _ _ h => h) ?_ ?_; rotate_left; focus (intro w; go_simp; try with_reducible rfl)))
        try simp only [Act.put, List.setIfInBounds_toArray, List.set_cons_zero, List.set_cons_succ]
        (refine wpH_pure 14 ?_ (oi := { dst := some 28, op := Op.pick (Operand.tmp 22) (Operand.tmp 27) (Operand.const (Value.bool false)), type := 4, pos := "header.go:37", after := #[{ on := 8, ground := Ground.data }, { on := 13, ground := Ground.data }], guard := none }) rfl (by kernel_rfl) (by kernel_rfl) (by kernel_rfl) (by rfl) hS (fun _ _ _ h => h) ?_ ?_; rotate_left; focus (intro w; go_simp; try with_reducible rfl))
        try simp only [Act.put, List.setIfInBounds_toArray, List.set_cons_zero, List.set_cons_succ]
        (refine wpH_pure 15 ?_ (oi := { dst := some 4, op := Op.assign (Operand.tmp 28), type := 4, pos := "header.go:37", after := #[{ on := 14, ground := Ground.data }, { on := 12, ground := Ground.chain }, { on := 0, ground := Ground.phase }, { on := 1, ground := Ground.phase }, { on := 2, ground := Ground.phase }, { on := 3, ground := Ground.phase }, { on := 4, ground := Ground.phase }, { on := 5, ground := Ground.phase }, { on := 6, ground := Ground.phase }, { on := 7, ground := Ground.phase }, { on := 8, ground := Ground.phase }, { on := 9, ground := Ground.phase }, { on := 10, ground := Ground.phase }, { on := 11, ground := Ground.phase }, { on := 12, ground := Ground.phase }, { on := 13, ground := Ground.phase }, { on := 14, ground := Ground.phase }], guard := none }) rfl (by kernel_rfl) (by kernel_rfl) (by kernel_rfl) (by rfl) hS (fun _ _ _ h => h) ?_ ?_; rotate_left; focus (intro w; go_simp; try with_reducible rfl))
        try simp only [Act.put, List.setIfInBounds_toArray, List.set_cons_zero, List.set_cons_succ]
        refine wpAnyH_done (by kernel_rfl) ?_ _
        have hbZ := hb0.trans (hS.mono hb0.size)
        obtain ⟨b1, b2, b3⟩ := id (B0.keep hS)
        clear hcn hli hzl B0 hb0 hS
        cases x1
        · go_wp2_with fail
          refine (q1 _).mono ?_
          rintro e w1 ⟨rfl, rfl⟩
          go_wp2_with fail
          go_ret
          exact ⟨rfl, hbZ⟩
        · cases x2
          · go_wp2_with fail
            refine (q1 _).mono ?_
            rintro e w1 ⟨rfl, rfl⟩
            go_wp2_with fail
            refine (q2 _).mono ?_
            rintro e w1 ⟨rfl, rfl⟩
            go_wp2_with fail
            go_ret
            exact ⟨rfl, hbZ⟩
          · cases x3
            · go_wp2_with fail
              refine (q1 _).mono ?_
              rintro e w1 ⟨rfl, rfl⟩
              go_wp2_with fail
              refine (q2 _).mono ?_
              rintro e w1 ⟨rfl, rfl⟩
              go_wp2_with fail
              refine (q3 _).mono ?_
              rintro e w1 ⟨rfl, rfl⟩
              go_wp2_with fail
              go_ret
              exact ⟨rfl, hbZ⟩
            · cases x4
              · go_wp2_with fail
                refine (q1 _).mono ?_
                rintro e w1 ⟨rfl, rfl⟩
                go_wp2_with fail
                refine (q2 _).mono ?_
                rintro e w1 ⟨rfl, rfl⟩
                go_wp2_with fail
                refine (q3 _).mono ?_
                rintro e w1 ⟨rfl, rfl⟩
                go_wp2_with fail
                refine (q4 _).mono ?_
                rintro e w1 ⟨rfl, rfl⟩
                go_wp2_with fail
                go_ret
                exact ⟨rfl, hbZ⟩
              · go_wp2_with fail
                refine (q1 _).mono ?_
                rintro e w1 ⟨rfl, rfl⟩
                go_wp2_with fail
                refine (q2 _).mono ?_
                rintro e w1 ⟨rfl, rfl⟩
                go_wp2_with fail
                refine (q3 _).mono ?_
                rintro e w1 ⟨rfl, rfl⟩
                go_wp2_with fail
                refine (q4 _).mono ?_
                rintro e w1 ⟨rfl, rfl⟩
                go_wp2_with fail
                refine (q5 _).mono ?_
                rintro e w1 ⟨rfl, rfl⟩
                go_wp2_with fail
                go_ret
                exact ⟨rfl, hbZ⟩
      · simp only [Bool.not_true, Bool.false_and]
        go_enter Tryz.func120, Tryz.ntmps120
        go_wp2_with fail
        refine wpH_start (by kernel_rfl) (fun hS => ?_)
        (refine wpH_pure 0 ?_ (oi := { dst := some 14, op := Op.fieldAddr 24 (Operand.tmp 1) 10, type := 0, pos := "header.go:37", after := #[], guard := none }) rfl (by kernel_rfl) (by kernel_rfl) (by kernel_rfl) (by rfl) hS (fun _ _ _ h => h) ?_ ?_; rotate_left; focus (intro w; go_simp; try with_reducible rfl))
        try simp only [Act.put, List.setIfInBounds_toArray, List.set_cons_zero, List.set_cons_succ]
        refine wpH_load 1 (.slice ka K.length kc) (oi := { dst := some 15, op := Op.load 22 (Operand.tmp 14), type := 22, pos := "header.go:37", after := #[{ on := 0, ground := Ground.data }], guard := none }) rfl (by kernel_rfl) (by kernel_rfl) (by kernel_rfl) (by rfl) hS (fun _ _ _ h => h) (fun w hb2 => (by have c := (B0.keep hb2).cell 10; go_simp; try rfl)) ?_
        try simp only [Act.put, List.setIfInBounds_toArray, List.set_cons_zero, List.set_cons_succ]
        (refine wpH_pure 2 ?_ (oi := { dst := some 16, op := Op.call { callee := Callee.builtin Builtin.len, args := #[Operand.tmp 15], argTypes := #[22] }, type := 3, pos := "header.go:37", after := #[{ on := 1, ground := Ground.data }], guard := none }) rfl (by kernel_rfl) (by kernel_rfl) (by kernel_rfl) (by rfl) hS (fun _ _ _ h => h) ?_ ?_; rotate_left; focus (intro w; go_simp; try with_reducible rfl))
        try simp only [Act.put, List.setIfInBounds_toArray, List.set_cons_zero, List.set_cons_succ]
        (refine wpH_pure 3 ?_ (oi := { dst := some 17, op := Op.fieldAddr 24 (Operand.tmp 1) 0, type := 0, pos := "header.go:37", after := #[], guard := none }) rfl (by kernel_rfl) (by kernel_rfl) (by kernel_rfl) (by rfl) hS (fun _ _ _ h => h) ?_ ?_; rotate_left; focus (intro w; go_simp; try with_reducible rfl))
        try simp only [Act.put, List.setIfInBounds_toArray, List.set_cons_zero, List.set_cons_succ]
        refine wpH_load 4 (.int .i64 (a1)) (oi := { dst := some 18, op := Op.load 3 (Operand.tmp 17), type := 3, pos := "header.go:37", after := #[{ on := 3, ground := Ground.data }], guard := none }) rfl (by kernel_rfl) (by kernel_rfl) (by kernel_rfl) (by rfl) hS (fun _ _ _ h => h) (fun w hb2 => (by have c := (B0.keep hb2).cell 0; go_simp; try rfl)) ?_
        try simp only [Act.put, List.setIfInBounds_toArray, List.set_cons_zero, List.set_cons_succ]
        refine wpH_call 5 (oi := { dst := some 19, op := Op.call { callee := Callee.value (Operand.func 106), args := #[Operand.tmp 18], argTypes := #[3] }, type := 51, pos := "header.go:37", after := #[{ on := 4, ground := Ground.data }], guard := none }) rfl (by kernel_rfl) (by rfl) (hli _) ?_ ?_
        · (go_simp; try rfl)
        rintro e w' ⟨vl, rfl, hzl, hbx⟩
        refine ⟨_, rfl, hS.trans (hbx.mono hS.size), ?_⟩
        replace hS := hS.trans (hbx.mono hS.size)
        obtain ⟨za, zc, rfl⟩ := hzl.form
        try simp only [Act.put, List.setIfInBounds_toArray, List.set_cons_zero, List.set_cons_succ]
        (refine wpH_pure 6 ?_ (oi := { dst := some 20, op := Op.call { callee := Callee.builtin Builtin.len, args := #[Operand.tmp 19], argTypes := #[51] }, type := 3, pos := "header.go:37", after := #[{ on := 5, ground := Ground.data }], guard := none }) rfl (by kernel_rfl) (by kernel_rfl) (by kernel_rfl) (by rfl) hS (fun _ _ _ h => h) ?_ ?_; rotate_left; focus (intro w; go_simp; try with_reducible rfl))
        try simp only [Act.put, List.setIfInBounds_toArray, List.set_cons_zero, List.set_cons_succ]
        (refine wpH_pure 7 ?_ (oi := { dst := some 21, op := Op.binOp BinOp.eql 3 (Operand.tmp 16) (Operand.tmp 20) 3, type := 4, pos := "header.go:37", after := #[{ on := 2, ground := Ground.data }, { on := 6, ground := Ground.data }], guard := none }) rfl (by kernel_rfl) (by kernel_rfl) (by kernel_rfl) (by rfl) hS (fun _ _ _ h => h) ?_ ?_; rotate_left; focus (intro w; go_simp; try with_reducible rfl))
        try simp only [Act.put, List.setIfInBounds_toArray, List.set_cons_zero, List.set_cons_succ]
        (refine wpH_pure 8 ?_ (oi := { dst := some 22, op := Op.move (Operand.tmp 21), type := 4, pos := "header.go:37", after := #[{ on := 7, ground := Ground.data }, { on := 5, ground := Ground.chain }], guard := none }) rfl (by kernel_rfl) (by kernel_rfl) (by kernel_rfl) (by rfl) hS (fun _ _ _ h => h) ?_ ?_; rotate_left; focus (intro w; go_simp; try with_reducible rfl))
        try simp only [Act.put, List.setIfInBounds_toArray, List.set_cons_zero, List.set_cons_succ]
        (first | (refine wpH_skip 9 (oi := { dst := some 23, op := Op.fieldAddr 24 (Operand.tmp 1) 10, type := 0, pos := "header.go:37", after := #[{ on := 8, ground := Ground.guard }], guard := some (8, true) }) rfl (by kernel_rfl) (by kernel_rfl) (by kernel_rfl) (by rfl) hS (fun _ _ _ h => h) ?_) | (refine wpH_pure 9 ?_ (oi := { dst := some 23, op := Op.fieldAddr 24 (Operand.tmp 1) 10, type := 0, pos := "header.go:37", after := #[{ on := 8, ground := Ground.guard }], guard := some (8, true) }) rfl (by kernel_rfl) (by kernel_rfl) (by kernel_rfl) (by rfl) hS (fun _ _ _ h => h) ?_ ?_; rotate_left; focus (intro w; go_simp; try with_reducible rfl)))
        try simp only [Act.put, List.setIfInBounds_toArray, List.set_cons_zero, List.set_cons_succ]
        refine wpH_load 10 (.slice ka K.length kc) (oi := { dst := some 24, op := Op.load 22 (Operand.tmp 23), type := 22, pos := "header.go:37", after := #[{ on := 9, ground := Ground.data }, { on := 8, ground := Ground.guard }], guard := some (8, true) }) rfl (by kernel_rfl) (by kernel_rfl) (by kernel_rfl) (by rfl) hS (fun _ _ _ h => h) (fun w hb2 => (by have c := (B0.keep hb2).cell 10; go_simp; try rfl)) ?_
        try simp only [Act.put, List.setIfInBounds_toArray, List.set_cons_zero, List.set_cons_succ]
        (first | (refine wpH_skip 11 (oi := { dst := some 25, op := Op.move (Operand.tmp 3), type := 123, pos := "header.go:37", after := #[{ on := 8, ground := Ground.guard }], guard := some (8, true) }) rfl (by kernel_rfl) (by kernel_rfl) (by kernel_rfl) (by rfl) hS (fun _ _ _ h => h) ?_) | (refine wpH_pure 11 ?_ (oi := { dst := some 25, op := Op.move (Operand.tmp 3), type := 123, pos := "header.go:37", after := #[{ on := 8, ground := Ground.guard }], guard := some (8, true) }) rfl (by kernel_rfl) (by kernel_rfl) (by kernel_rfl) (by rfl) hS (fun _ _ _ h => h) ?_ ?_; rotate_left; focus (intro w; go_simp; try with_reducible rfl)))
        try simp only [Act.put, List.setIfInBounds_toArray, List.set_cons_zero, List.set_cons_succ]
        refine wpH_call 12 (oi := { dst := some 26, op := Op.call { callee := Callee.value (Operand.func 150), args := #[Operand.tmp 24, Operand.tmp 25], argTypes := #[22, 123] }, type := 4, pos := "header.go:37", after := #[{ on := 10, ground := Ground.data }, { on := 11, ground := Ground.data }, { on := 8, ground := Ground.chain }, { on := 8, ground := Ground.guard }], guard := some (8, true) }) rfl (by kernel_rfl) (by rfl) (hcn _ (hb0.trans (hS.mono hb0.size))) ?_ ?_
        · (go_simp; try rfl)
        rintro e w' ⟨rfl, nn, rfl⟩
        refine ⟨_, rfl, below_drewN hS nn, ?_⟩
        replace hS := below_drewN hS nn
        try simp only [Act.put, List.setIfInBounds_toArray, List.set_cons_zero, List.set_cons_succ]
        (first | (refine wpH_skip 13 (oi := { dst := some 27, op := Op.unOp UnOp.not 4 (Operand.tmp 26), type := 4, pos := "header.go:37", after := #[{ on := 12, ground := Ground.data }, { on := 8, ground := Ground.guard }], guard := some (8, true) }) rfl (by kernel_rfl) (by kernel_rfl) (by kernel_rfl) (by rfl) hS (fun _ _ _ h => h) ?_) | (refine wpH_pure 13 ?_ (oi := { dst := some 27, op := Op.unOp UnOp.not 4 (Operand.tmp 26), type := 4, pos := "header.go:37", after := #[{ on := 12, ground := Ground.data }, { on := 8, ground := Ground.guard }], guard := some (8, true) }) rfl (by kernel_rfl) (by kernel_rfl) (by kernel_rfl) (by rfl) hS (fun _ _ _ h => h) ?_ ?_; rotate_left; focus (intro w; go_simp; try with_reducible rfl)))
        try simp only [Act.put, List.setIfInBounds_toArray, List.set_cons_zero, List.set_cons_succ]
        (refine wpH_pure 14 ?_ (oi := { dst := some 28, op := Op.pick (Operand.tmp 22) (Operand.tmp 27) (Operand.const (Value.bool false)), type := 4, pos := "header.go:37", after := #[{ on := 8, ground := Ground.data }, { on := 13, ground := Ground.data }], guard := none }) rfl (by kernel_rfl) (by kernel_rfl) (by kernel_rfl) (by rfl) hS (fun _ _ _ h => h) ?_ ?_; rotate_left; focus (intro w; go_simp; try with_reducible rfl))
        try simp only [Act.put, List.setIfInBounds_toArray, List.set_cons_zero, List.set_cons_succ]
        (refine wpH_pure 15 ?_ (oi := { dst := some 4, op := Op.assign (Operand.tmp 28), type := 4, pos := "header.go:37", after := #[{ on := 14, ground := Ground.data }, { on := 12, ground := Ground.chain }, { on := 0, ground := Ground.phase }, { on := 1, ground := Ground.phase }, { on := 2, ground := Ground.phase }, { on := 3, ground := Ground.phase }, { on := 4, ground := Ground.phase }, { on := 5, ground := Ground.phase }, { on := 6, ground := Ground.phase }, { on := 7, ground := Ground.phase }, { on := 8, ground := Ground.phase }, { on := 9, ground := Ground.phase }, { on := 10, ground := Ground.phase }, { on := 11, ground := Ground.phase }, { on := 12, ground := Ground.phase }, { on := 13, ground := Ground.phase }, { on := 14, ground := Ground.phase }], guard := none }) rfl (by kernel_rfl) (by kernel_rfl) (by kernel_rfl) (by rfl) hS (fun _ _ _ h => h) ?_ ?_; rotate_left; focus (intro w; go_simp; try with_reducible rfl))
        try simp only [Act.put, List.setIfInBounds_toArray, List.set_cons_zero, List.set_cons_succ]
        refine wpAnyH_done (by kernel_rfl) ?_ _
        have hbZ := hb0.trans (hS.mono hb0.size)
        obtain ⟨b1, b2, b3⟩ := id (B0.keep hS)
        clear hcn hli hzl B0 hb0 hS
        go_wp2_with fail
        go_ret
        exact ⟨rfl, hbZ⟩
    · have e1 : ((K.length : Int) == (LK.length : Int)) = false := by simp; omega
      have e2 : decide (K.length = LK.length) = false := by simpa using hle
      have e3 : decide ((K.length : Int) = (LK.length : Int)) = false := by simp; omega
      have e4 : (K.length == LK.length) = false := by simpa using hle
      rw [e2, Bool.false_and, Bool.false_and]
      clear hle
      go_enter Tryz.func120, Tryz.ntmps120
      go_wp2_with fail
      refine wpH_start (by kernel_rfl) (fun hS => ?_)
      (refine wpH_pure 0 ?_ (oi := { dst := some 14, op := Op.fieldAddr 24 (Operand.tmp 1) 10, type := 0, pos := "header.go:37", after := #[], guard := none }) rfl (by kernel_rfl) (by kernel_rfl) (by kernel_rfl) (by rfl) hS (fun _ _ _ h => h) ?_ ?_; rotate_left; focus (intro w; go_simp; try with_reducible rfl))
      try simp only [Act.put, List.setIfInBounds_toArray, List.set_cons_zero, List.set_cons_succ]
      refine wpH_load 1 (.slice ka K.length kc) (oi := { dst := some 15, op := Op.load 22 (Operand.tmp 14), type := 22, pos := "header.go:37", after := #[{ on := 0, ground := Ground.data }], guard := none }) rfl (by kernel_rfl) (by kernel_rfl) (by kernel_rfl) (by rfl) hS (fun _ _ _ h => h) (fun w hb2 => (by have c := (B0.keep hb2).cell 10; go_simp; try rfl)) ?_
      try simp only [Act.put, List.setIfInBounds_toArray, List.set_cons_zero, List.set_cons_succ]
      (refine wpH_pure 2 ?_ (oi := { dst := some 16, op := Op.call { callee := Callee.builtin Builtin.len, args := #[Operand.tmp 15], argTypes := #[22] }, type := 3, pos := "header.go:37", after := #[{ on := 1, ground := Ground.data }], guard := none }) rfl (by kernel_rfl) (by kernel_rfl) (by kernel_rfl) (by rfl) hS (fun _ _ _ h => h) ?_ ?_; rotate_left; focus (intro w; go_simp; try with_reducible rfl))
      try simp only [Act.put, List.setIfInBounds_toArray, List.set_cons_zero, List.set_cons_succ]
      (refine wpH_pure 3 ?_ (oi := { dst := some 17, op := Op.fieldAddr 24 (Operand.tmp 1) 0, type := 0, pos := "header.go:37", after := #[], guard := none }) rfl (by kernel_rfl) (by kernel_rfl) (by kernel_rfl) (by rfl) hS (fun _ _ _ h => h) ?_ ?_; rotate_left; focus (intro w; go_simp; try with_reducible rfl))
      try simp only [Act.put, List.setIfInBounds_toArray, List.set_cons_zero, List.set_cons_succ]
      refine wpH_load 4 (.int .i64 (a1)) (oi := { dst := some 18, op := Op.load 3 (Operand.tmp 17), type := 3, pos := "header.go:37", after := #[{ on := 3, ground := Ground.data }], guard := none }) rfl (by kernel_rfl) (by kernel_rfl) (by kernel_rfl) (by rfl) hS (fun _ _ _ h => h) (fun w hb2 => (by have c := (B0.keep hb2).cell 0; go_simp; try rfl)) ?_
      try simp only [Act.put, List.setIfInBounds_toArray, List.set_cons_zero, List.set_cons_succ]
      refine wpH_call 5 (oi := { dst := some 19, op := Op.call { callee := Callee.value (Operand.func 106), args := #[Operand.tmp 18], argTypes := #[3] }, type := 51, pos := "header.go:37", after := #[{ on := 4, ground := Ground.data }], guard := none }) rfl (by kernel_rfl) (by rfl) (hli _) ?_ ?_
      · (go_simp; try rfl)
      rintro e w' ⟨vl, rfl, hzl, hbx⟩
      refine ⟨_, rfl, hS.trans (hbx.mono hS.size), ?_⟩
      replace hS := hS.trans (hbx.mono hS.size)
      obtain ⟨za, zc, rfl⟩ := hzl.form
      try simp only [Act.put, List.setIfInBounds_toArray, List.set_cons_zero, List.set_cons_succ]
      (refine wpH_pure 6 ?_ (oi := { dst := some 20, op := Op.call { callee := Callee.builtin Builtin.len, args := #[Operand.tmp 19], argTypes := #[51] }, type := 3, pos := "header.go:37", after := #[{ on := 5, ground := Ground.data }], guard := none }) rfl (by kernel_rfl) (by kernel_rfl) (by kernel_rfl) (by rfl) hS (fun _ _ _ h => h) ?_ ?_; rotate_left; focus (intro w; go_simp; try with_reducible rfl))
      try simp only [Act.put, List.setIfInBounds_toArray, List.set_cons_zero, List.set_cons_succ]
      (refine wpH_pure 7 ?_ (oi := { dst := some 21, op := Op.binOp BinOp.eql 3 (Operand.tmp 16) (Operand.tmp 20) 3, type := 4, pos := "header.go:37", after := #[{ on := 2, ground := Ground.data }, { on := 6, ground := Ground.data }], guard := none }) rfl (by kernel_rfl) (by kernel_rfl) (by kernel_rfl) (by rfl) hS (fun _ _ _ h => h) ?_ ?_; rotate_left; focus (intro w; go_simp; try with_reducible rfl))
      try simp only [Act.put, List.setIfInBounds_toArray, List.set_cons_zero, List.set_cons_succ]
      (refine wpH_pure 8 ?_ (oi := { dst := some 22, op := Op.move (Operand.tmp 21), type := 4, pos := "header.go:37", after := #[{ on := 7, ground := Ground.data }, { on := 5, ground := Ground.chain }], guard := none }) rfl (by kernel_rfl) (by kernel_rfl) (by kernel_rfl) (by rfl) hS (fun _ _ _ h => h) ?_ ?_; rotate_left; focus (intro w; go_simp; try with_reducible rfl))
      try simp only [Act.put, List.setIfInBounds_toArray, List.set_cons_zero, List.set_cons_succ]
      (first | (refine wpH_skip 9 (oi := { dst := some 23, op := Op.fieldAddr 24 (Operand.tmp 1) 10, type := 0, pos := "header.go:37", after := #[{ on := 8, ground := Ground.guard }], guard := some (8, true) }) rfl (by kernel_rfl) (by kernel_rfl) (by kernel_rfl) (by rfl) hS (fun _ _ _ h => h) ?_) | (refine wpH_pure 9 ?_ (oi := { dst := some 23, op := Op.fieldAddr 24 (Operand.tmp 1) 10, type := 0, pos := "header.go:37", after := #[{ on := 8, ground := Ground.guard }], guard := some (8, true) }) rfl (by kernel_rfl) (by kernel_rfl) (by kernel_rfl) (by rfl) hS (fun _ _ _ h => h) ?_ ?_; rotate_left; focus (intro w; go_simp; try with_reducible rfl)))
      try simp only [Act.put, List.setIfInBounds_toArray, List.set_cons_zero, List.set_cons_succ]
      refine wpH_skip 10 (oi := { dst := some 24, op := Op.load 22 (Operand.tmp 23), type := 22, pos := "header.go:37", after := #[{ on := 9, ground := Ground.data }, { on := 8, ground := Ground.guard }], guard := some (8, true) }) rfl (by kernel_rfl) (by kernel_rfl) (by kernel_rfl) (by rfl) hS (fun _ _ _ h => h) ?_
      try simp only [Act.put, List.setIfInBounds_toArray, List.set_cons_zero, List.set_cons_succ]
      (first | (refine wpH_skip 11 (oi := { dst := some 25, op := Op.move (Operand.tmp 3), type := 123, pos := "header.go:37", after := #[{ on := 8, ground := Ground.guard }], guard := some (8, true) }) rfl (by kernel_rfl) (by kernel_rfl) (by kernel_rfl) (by rfl) hS (fun _ _ _ h => h) ?_) | (refine wpH_pure 11 ?_ (oi := { dst := some 25, op := Op.move (Operand.tmp 3), type := 123, pos := "header.go:37", after := #[{ on := 8, ground := Ground.guard }], guard := some (8, true) }) rfl (by kernel_rfl) (by kernel_rfl) (by kernel_rfl) (by rfl) hS (fun _ _ _ h => h) ?_ ?_; rotate_left; focus (intro w; go_simp; try with_reducible rfl)))
      try simp only [Act.put, List.setIfInBounds_toArray, List.set_cons_zero, List.set_cons_succ]
      refine wpH_skip 12 (oi := { dst := some 26, op := Op.call { callee := Callee.value (Operand.func 150), args := #[Operand.tmp 24, Operand.tmp 25], argTypes := #[22, 123] }, type := 4, pos := "header.go:37", after := #[{ on := 10, ground := Ground.data }, { on := 11, ground := Ground.data }, { on := 8, ground := Ground.chain }, { on := 8, ground := Ground.guard }], guard := some (8, true) }) rfl (by kernel_rfl) (by kernel_rfl) (by kernel_rfl) (by rfl) hS (fun _ _ _ h => h) ?_
      try simp only [Act.put, List.setIfInBounds_toArray, List.set_cons_zero, List.set_cons_succ]
      (first | (refine wpH_skip 13 (oi := { dst := some 27, op := Op.unOp UnOp.not 4 (Operand.tmp 26), type := 4, pos := "header.go:37", after := #[{ on := 12, ground := Ground.data }, { on := 8, ground := Ground.guard }], guard := some (8, true) }) rfl (by kernel_rfl) (by kernel_rfl) (by kernel_rfl) (by rfl) hS (fun _ _ _ h => h) ?_) | (refine wpH_pure 13 ?_ (oi := { dst := some 27, op := Op.unOp UnOp.not 4 (Operand.tmp 26), type := 4, pos := "header.go:37", after := #[{ on := 12, ground := Ground.data }, { on := 8, ground := Ground.guard }], guard := some (8, true) }) rfl (by kernel_rfl) (by kernel_rfl) (by kernel_rfl) (by rfl) hS (fun _ _ _ h => h) ?_ ?_; rotate_left; focus (intro w; go_simp; try with_reducible rfl)))
      try simp only [Act.put, List.setIfInBounds_toArray, List.set_cons_zero, List.set_cons_succ]
      (refine wpH_pure 14 ?_ (oi := { dst := some 28, op := Op.pick (Operand.tmp 22) (Operand.tmp 27) (Operand.const (Value.bool false)), type := 4, pos := "header.go:37", after := #[{ on := 8, ground := Ground.data }, { on := 13, ground := Ground.data }], guard := none }) rfl (by kernel_rfl) (by kernel_rfl) (by kernel_rfl) (by rfl) hS (fun _ _ _ h => h) ?_ ?_; rotate_left; focus (intro w; go_simp; try with_reducible rfl))
      try simp only [Act.put, List.setIfInBounds_toArray, List.set_cons_zero, List.set_cons_succ]
      (refine wpH_pure 15 ?_ (oi := { dst := some 4, op := Op.assign (Operand.tmp 28), type := 4, pos := "header.go:37", after := #[{ on := 14, ground := Ground.data }, { on := 12, ground := Ground.chain }, { on := 0, ground := Ground.phase }, { on := 1, ground := Ground.phase }, { on := 2, ground := Ground.phase }, { on := 3, ground := Ground.phase }, { on := 4, ground := Ground.phase }, { on := 5, ground := Ground.phase }, { on := 6, ground := Ground.phase }, { on := 7, ground := Ground.phase }, { on := 8, ground := Ground.phase }, { on := 9, ground := Ground.phase }, { on := 10, ground := Ground.phase }, { on := 11, ground := Ground.phase }, { on := 12, ground := Ground.phase }, { on := 13, ground := Ground.phase }, { on := 14, ground := Ground.phase }], guard := none }) rfl (by kernel_rfl) (by kernel_rfl) (by kernel_rfl) (by rfl) hS (fun _ _ _ h => h) ?_ ?_; rotate_left; focus (intro w; go_simp; try with_reducible rfl))
      try simp only [Act.put, List.setIfInBounds_toArray, List.set_cons_zero, List.set_cons_succ]
      refine wpAnyH_done (by kernel_rfl) ?_ _
      have hbZ := hb0.trans (hS.mono hb0.size)
      obtain ⟨b1, b2, b3⟩ := id (B0.keep hS)
      clear hcn hli hzl B0 hb0 hS
      go_wp2_with fail
      go_ret
      exact ⟨rfl, hbZ⟩
  · have d1 : decide (0 < a1) = false := by simpa using h1
    rw [if_neg h1]
    clear h1 hcn B0
    by_cases h2 : K.length = 0
    · have e1 : decide (K = []) = true := by simpa using h2
      have e2 : ((K.length : Int) == 0) = true := by simpa using h2
      have e3 : decide ((K.length : Int) = 0) = true := by simpa using h2
      rw [e1, Bool.true_and]
      clear e1
      rw [h2] at b1 hb0 e2 e3 ⊢
      go_enter Tryz.func120, Tryz.ntmps120
      cases x1
      · go_wp2_with fail
        refine (q1 _).mono ?_
        rintro e w1 ⟨rfl, rfl⟩
        go_wp2_with fail
        go_ret
        exact ⟨rfl, hb0⟩
      · cases x2
        · go_wp2_with fail
          refine (q1 _).mono ?_
          rintro e w1 ⟨rfl, rfl⟩
          go_wp2_with fail
          refine (q2 _).mono ?_
          rintro e w1 ⟨rfl, rfl⟩
          go_wp2_with fail
          go_ret
          exact ⟨rfl, hb0⟩
        · cases x3
          · go_wp2_with fail
            refine (q1 _).mono ?_
            rintro e w1 ⟨rfl, rfl⟩
            go_wp2_with fail
            refine (q2 _).mono ?_
            rintro e w1 ⟨rfl, rfl⟩
            go_wp2_with fail
            refine (q3 _).mono ?_
            rintro e w1 ⟨rfl, rfl⟩
            go_wp2_with fail
            go_ret
            exact ⟨rfl, hb0⟩
          · cases x4
            · go_wp2_with fail
              refine (q1 _).mono ?_
              rintro e w1 ⟨rfl, rfl⟩
              go_wp2_with fail
              refine (q2 _).mono ?_
              rintro e w1 ⟨rfl, rfl⟩
              go_wp2_with fail
              refine (q3 _).mono ?_
              rintro e w1 ⟨rfl, rfl⟩
              go_wp2_with fail
              refine (q4 _).mono ?_
              rintro e w1 ⟨rfl, rfl⟩
              go_wp2_with fail
              go_ret
              exact ⟨rfl, hb0⟩
            · go_wp2_with fail
              refine (q1 _).mono ?_
              rintro e w1 ⟨rfl, rfl⟩
              go_wp2_with fail
              refine (q2 _).mono ?_
              rintro e w1 ⟨rfl, rfl⟩
              go_wp2_with fail
              refine (q3 _).mono ?_
              rintro e w1 ⟨rfl, rfl⟩
              go_wp2_with fail
              refine (q4 _).mono ?_
              rintro e w1 ⟨rfl, rfl⟩
              go_wp2_with fail
              refine (q5 _).mono ?_
              rintro e w1 ⟨rfl, rfl⟩
              go_wp2_with fail
              go_ret
              exact ⟨rfl, hb0⟩
    · have e1 : decide (K = []) = false := by simpa using h2
      have e2 : ((K.length : Int) == 0) = false := by simpa using h2
      have e3 : decide ((K.length : Int) = 0) = false := by simpa using h2
      have e4 : decide (K.length = 0) = false := by simpa using h2
      rw [e1, Bool.false_and]
      clear e1 h2
      go_enter Tryz.func120, Tryz.ntmps120
      go_wp2_with fail
      go_ret
      exact ⟨rfl, hb0⟩
/-- A header's code. -/
def codeH (b : Bool) : Int := if b then 0 else 190
set_option maxRecDepth 100000 in
set_option maxHeartbeats 4000000 in
theorem hd_check (a1 a2 a3 : Int) (lb : Bool) (pa st rc tx me ne : Bs) (K : List Bs) (sk : Value) (w : World) (hk : SS w sk K) :
    Calls Tryz.prog 65 #[.agg #[.int .i64 (a1), .int .i64 (a2), .int .i64 (a3), .bool lb, .string ⟨List.toArray (pa)⟩, .string ⟨List.toArray (st)⟩, .string ⟨List.toArray (rc)⟩, .string ⟨List.toArray (tx)⟩, .string ⟨List.toArray (me)⟩, .string ⟨List.toArray (ne)⟩, sk]] w fun e w' => e = .returned (.int .i64 (codeH (fineH ⟨a1, a2, a3, lb, pa, st, rc, tx, me, ne, K⟩))) ∧ Below w.heap.size w w' := by
  have hb0 : Below w.heap.size w (w.alloc (.cells #[.int .i64 (a1), .int .i64 (a2), .int .i64 (a3), .bool lb, .string ⟨List.toArray (pa)⟩, .string ⟨List.toArray (st)⟩, .string ⟨List.toArray (rc)⟩, .string ⟨List.toArray (tx)⟩, .string ⟨List.toArray (me)⟩, .string ⟨List.toArray (ne)⟩, sk] 24)) := Below.allocS (Below.refl _ _) _
  have B0 : Blk (w.alloc (.cells #[.int .i64 (a1), .int .i64 (a2), .int .i64 (a3), .bool lb, .string ⟨List.toArray (pa)⟩, .string ⟨List.toArray (st)⟩, .string ⟨List.toArray (rc)⟩, .string ⟨List.toArray (tx)⟩, .string ⟨List.toArray (me)⟩, .string ⟨List.toArray (ne)⟩, sk] 24)) w.heap.size #[.int .i64 (a1), .int .i64 (a2), .int .i64 (a3), .bool lb, .string ⟨List.toArray (pa)⟩, .string ⟨List.toArray (st)⟩, .string ⟨List.toArray (rc)⟩, .string ⟨List.toArray (tx)⟩, .string ⟨List.toArray (me)⟩, .string ⟨List.toArray (ne)⟩, sk] := Blk.new _ _ _
  have q1 := fun W => hd_numbers a1 a2 a3 lb pa st rc tx me ne sk W
  have q2 := fun W => hd_first a1 a2 a3 lb pa st rc tx me ne K sk W
  have q3 := fun W (hb : Below w.heap.size w W) => hd_sums a1 a2 a3 lb pa st rc tx me ne K sk W (hk.keep hb)
  have hF : fineH ⟨a1, a2, a3, lb, pa, st, rc, tx, me, ne, K⟩ = ((inH a1 1048576 && inH a2 1048576 && inH a3 1048576) && firstH ⟨a1, a2, a3, lb, pa, st, rc, tx, me, ne, K⟩ && sumsH ⟨a1, a2, a3, lb, pa, st, rc, tx, me, ne, K⟩ && (lb || decide (ne = me))) := rfl
  rw [hF]
  clear hF hk
  generalize (inH a1 1048576 && inH a2 1048576 && inH a3 1048576) = x1 at *
  generalize firstH ⟨a1, a2, a3, lb, pa, st, rc, tx, me, ne, K⟩ = x2 at *
  generalize sumsH ⟨a1, a2, a3, lb, pa, st, rc, tx, me, ne, K⟩ = x3 at *
  generalize hr : codeH (x1 && x2 && x3 && (lb || decide (ne = me))) = r
  have HR := Lib.hid hr
  clear hr
  obtain ⟨b1, b2, b3⟩ := id B0
  go_enter Tryz.func65, Tryz.ntmps65
  go_wp2_with fail
  refine (q1 _).mono ?_
  rintro e w1 ⟨rfl, hb⟩
  have hb1 := hb0.trans (hb.mono hb0.size)
  have B1 := B0.keep hb
  clear q1 hb b1 b2 b3 B0 hb0
  obtain ⟨b1, b2, b3⟩ := id B1
  cases x1
  · go_wp2_with fail
    go_ret
    exact ⟨by rw [← HR.out]; rfl, hb1⟩
  go_wp2_with fail
  refine (q2 _).mono ?_
  rintro e w2 ⟨rfl, hb⟩
  have hb2 := hb1.trans (hb.mono hb1.size)
  have B2 := B1.keep hb
  clear q2 hb b1 b2 b3 B1 hb1
  obtain ⟨b1, b2, b3⟩ := id B2
  cases x2
  · go_wp2_with fail
    go_ret
    exact ⟨by rw [← HR.out]; rfl, hb2⟩
  go_wp2_with fail
  refine (q3 _ hb2).mono ?_
  rintro e w3 ⟨rfl, hb⟩
  have hb3 := hb2.trans (hb.mono hb2.size)
  have B3 := B2.keep hb
  clear q3 hb b1 b2 b3 B2 hb2
  obtain ⟨b1, b2, b3⟩ := id B3
  cases x3
  · go_wp2_with fail
    go_ret
    exact ⟨by rw [← HR.out]; rfl, hb3⟩
  cases lb
  · by_cases h : ne = me
    · subst h
      go_wp2_with fail
      go_ret
      exact ⟨by rw [← HR.out]; simp [codeH], hb3⟩
    · have e1 : decide (ne = me) = false := by simpa using h
      have e2 : (ne == me) = false := by simpa using h
      have e3 : (ne != me) = true := by simpa using h
      have HE := Lib.hid e1
      clear h
      go_wp2_with fail
      go_ret
      exact ⟨by rw [← HR.out, HE.out]; rfl, hb3⟩
  · go_wp2_with fail
    go_ret
    exact ⟨by rw [← HR.out]; rfl, hb3⟩
end Go.Proofs.YthgjdaomcpinaaaGreatDoor
