/- HeadS, HeadB. -/
import Derived.Test.YthkpmlfaddlieaaGreatDoorMw9
set_option linter.unnecessarySimpa false
set_option linter.unusedSimpArgs false
set_option linter.unusedVariables false
set_option maxRecDepth 100000
set_option maxHeartbeats 32000000
namespace Go.Proofs.YthkpmlfaddlieaaGreatDoor
open Go.RowKit Go.Shelf Pl
theorem hd_sums (a1 a2 a3 : Int) (lb : Bool) (pa st rc tx me ne : Bs) (K : List Bs) (sk : Value) (w : World) (hk : SS w sk K) :
  Calls Tryz.prog 74 #[.agg #[.int .i64 a1, .int .i64 a2, .int .i64 a3, .bool lb, .string ⟨List.toArray pa⟩, .string ⟨List.toArray st⟩, .string ⟨List.toArray rc⟩, .string ⟨List.toArray tx⟩, .string ⟨List.toArray me⟩, .string ⟨List.toArray ne⟩, sk]] w fun e w' => e = .returned (.bool (sumsH ⟨a1, a2, a3, lb, pa, st, rc, tx, me, ne, K⟩)) ∧ Below w.heap.size w w' := by
 obtain ⟨ka, kc, rfl⟩ := hk.form
 have HK := Lib.hid hk
 have HKS := Lib.hid hk.small
 generalize hsk : Value.slice ka K.length kc = sk at *
 have hb0 : Below w.heap.size w (w.alloc (.cells #[.int .i64 a1, .int .i64 a2, .int .i64 a3, .bool lb, .string ⟨List.toArray pa⟩, .string ⟨List.toArray st⟩, .string ⟨List.toArray rc⟩, .string ⟨List.toArray tx⟩, .string ⟨List.toArray me⟩, .string ⟨List.toArray ne⟩, sk] 48)) := Below.allocS (Below.refl _ _) _
 have B0 : Blk (w.alloc (.cells #[.int .i64 a1, .int .i64 a2, .int .i64 a3, .bool lb, .string ⟨List.toArray pa⟩, .string ⟨List.toArray st⟩, .string ⟨List.toArray rc⟩, .string ⟨List.toArray tx⟩, .string ⟨List.toArray me⟩, .string ⟨List.toArray ne⟩, sk] 48)) w.heap.size #[.int .i64 a1, .int .i64 a2, .int .i64 a3, .bool lb, .string ⟨List.toArray pa⟩, .string ⟨List.toArray st⟩, .string ⟨List.toArray rc⟩, .string ⟨List.toArray tx⟩, .string ⟨List.toArray me⟩, .string ⟨List.toArray ne⟩, sk] := Blk.new _ _ _
 obtain ⟨b1, b2, b3⟩ := id B0
 have hcn := fun W (hb : Below w.heap.size w W) => contains_any sk K W (HK.out.keep hb)
 have HOA := Lib.hid (odd_all K)
 unfold sumsH endH
 simp only
 rw [← HOA.out]
 have HLF := Lib.hid (linksF_len a1)
 have hsk2 := hsk
 subst hsk
 clear hk HOA
 have q1 := fun W => hd_sum tx W
 have q2 := fun W => hd_sum me W
 have q3 := fun W => hd_sum ne W
 have q4 := fun W => hd_maybe st W
 have q5 := fun W => hd_maybe rc W
 generalize decide (tx.length = 32) = x1 at *
 generalize decide (me.length = 32) = x2 at *
 generalize decide (ne.length = 32) = x3 at *
 generalize may32 st = x4 at *
 generalize may32 rc = x5 at *
 by_cases h1 : 0 < a1
 ·have d1 : decide (0 < a1) = true := by simpa using h1
  rw [if_pos h1]
  clear h1
  have hli := fun W => links_any a1 W
  generalize linksF a1 = LK at *
  generalize oddS K = xo at *
  by_cases hle : K.length = LK.length
  ·have e1 : ((K.length : Int) == (LK.length : Int)) = true := by simp; omega
   have e2 : decide (K.length = LK.length) = true := by simpa using hle
   have e3 : decide ((K.length : Int) = (LK.length : Int)) = true := by simp; omega
   rw [e2, Bool.true_and]
   clear hle
   cases xo
   ·simp only [Bool.not_false, Bool.true_and]
    go_enter Tryz.func74, Tryz.ntmps74
    go_wp2_with fail
    refine wpH_start (by kernel_rfl) (fun hS => ?_)
    (refine hP 0 ?_ ⟨some 14, .fieldAddr 48 (.tmp 1) 10, 0, "", #[], none⟩ hS ?_ ?_; rotate_left; focus (intro w; go_simp; try with_reducible rfl))
    try simp only [pna, pnb, pnc, pnd, pne]
    refine wpH_load 1 (.slice ka K.length kc) (oi := { dst := some 15, op := Op.load 24 (Operand.tmp 14), type := 24, pos := "header.go:37", after := #[{ on := 0, ground := Ground.data }], guard := none }) rfl (by kernel_rfl) (by kernel_rfl) (by kernel_rfl) (by rfl) hS (fun _ _ _ h => h) (fun w hb2 => (by have c := (B0.keep hb2).cell 10; go_simp; try rfl)) ?_
    try simp only [pna, pnb, pnc, pnd, pne]
    (refine hP 2 ?_ ⟨some 16, .call { callee := .builtin .len, args := #[.tmp 15], argTypes := #[24] }, 3, "", #[], none⟩ hS ?_ ?_; rotate_left; focus (intro w; go_simp; try with_reducible rfl))
    try simp only [pna, pnb, pnc, pnd, pne]
    (refine hP 3 ?_ ⟨some 17, .fieldAddr 48 (.tmp 1) 0, 0, "", #[], none⟩ hS ?_ ?_; rotate_left; focus (intro w; go_simp; try with_reducible rfl))
    try simp only [pna, pnb, pnc, pnd, pne]
    refine wpH_load 4 (.int .i64 a1) (oi := { dst := some 18, op := Op.load 3 (Operand.tmp 17), type := 3, pos := "header.go:37", after := #[{ on := 3, ground := Ground.data }], guard := none }) rfl (by kernel_rfl) (by kernel_rfl) (by kernel_rfl) (by rfl) hS (fun _ _ _ h => h) (fun w hb2 => (by have c := (B0.keep hb2).cell 0; go_simp; try rfl)) ?_
    try simp only [pna, pnb, pnc, pnd, pne]
    refine wpH_call 5 (oi := { dst := some 19, op := Op.call { callee := Callee.value (Operand.func 86), args := #[Operand.tmp 18], argTypes := #[3] }, type := 111, pos := "header.go:37", after := #[{ on := 4, ground := Ground.data }], guard := none }) rfl (by kernel_rfl) (by rfl) (hli _) ?_ ?_
    ·(go_simp; try rfl)
    rintro e w' ⟨vl, rfl, hzl, hbx⟩
    refine ⟨_, rfl, hS.trans (hbx.mono hS.size), ?_⟩
    replace hS := hS.trans (hbx.mono hS.size)
    obtain ⟨za, zc, rfl⟩ := hzl.form
    try simp only [pna, pnb, pnc, pnd, pne]
    (refine hP 6 ?_ ⟨some 20, .call { callee := .builtin .len, args := #[.tmp 19], argTypes := #[111] }, 3, "", #[], none⟩ hS ?_ ?_; rotate_left; focus (intro w; go_simp; try with_reducible rfl))
    try simp only [pna, pnb, pnc, pnd, pne]
    (refine hP 7 ?_ ⟨some 21, .binOp .eql 3 (.tmp 16) (.tmp 20) 3, 4, "", #[], none⟩ hS ?_ ?_; rotate_left; focus (intro w; go_simp; try with_reducible rfl))
    try simp only [pna, pnb, pnc, pnd, pne]
    (refine hP 8 ?_ ⟨some 22, .move (.tmp 21), 4, "", #[], none⟩ hS ?_ ?_; rotate_left; focus (intro w; go_simp; try with_reducible rfl))
    try simp only [pna, pnb, pnc, pnd, pne]
    (first | (refine hN 9 ⟨some 23, .fieldAddr 48 (.tmp 1) 10, 0, "", #[], some (8, true)⟩ hS ?_) | (refine hP 9 ?_ ⟨some 23, .fieldAddr 48 (.tmp 1) 10, 0, "", #[], some (8, true)⟩ hS ?_ ?_; rotate_left; focus (intro w; go_simp; try with_reducible rfl)))
    try simp only [pna, pnb, pnc, pnd, pne]
    refine wpH_load 10 (.slice ka K.length kc) (oi := { dst := some 24, op := Op.load 24 (Operand.tmp 23), type := 24, pos := "header.go:37", after := #[{ on := 9, ground := Ground.data }, { on := 8, ground := Ground.guard }], guard := some (8, true) }) rfl (by kernel_rfl) (by kernel_rfl) (by kernel_rfl) (by rfl) hS (fun _ _ _ h => h) (fun w hb2 => (by have c := (B0.keep hb2).cell 10; go_simp; try rfl)) ?_
    try simp only [pna, pnb, pnc, pnd, pne]
    (first | (refine hN 11 ⟨some 25, .move (.tmp 3), 165, "", #[], some (8, true)⟩ hS ?_) | (refine hP 11 ?_ ⟨some 25, .move (.tmp 3), 165, "", #[], some (8, true)⟩ hS ?_ ?_; rotate_left; focus (intro w; go_simp; try with_reducible rfl)))
    try simp only [pna, pnb, pnc, pnd, pne]
    refine wpH_call 12 (oi := { dst := some 26, op := Op.call { callee := Callee.value (Operand.func 110), args := #[Operand.tmp 24, Operand.tmp 25], argTypes := #[24, 165] }, type := 4, pos := "header.go:37", after := #[{ on := 10, ground := Ground.data }, { on := 11, ground := Ground.data }, { on := 8, ground := Ground.chain }, { on := 8, ground := Ground.guard }], guard := some (8, true) }) rfl (by kernel_rfl) (by rfl) (hcn _ (hb0.trans (hS.mono hb0.size))) ?_ ?_
    ·(go_simp; try rfl)
    rintro e w' ⟨rfl, nn, rfl⟩
    refine ⟨_, rfl, below_drewN hS nn, ?_⟩
    replace hS := below_drewN hS nn
    try simp only [pna, pnb, pnc, pnd, pne]
    (first | (refine hN 13 ⟨some 27, .unOp .not 4 (.tmp 26), 4, "", #[], some (8, true)⟩ hS ?_) | (refine hP 13 ?_ ⟨some 27, .unOp .not 4 (.tmp 26), 4, "", #[], some (8, true)⟩ hS ?_ ?_; rotate_left; focus (intro w; go_simp; try with_reducible rfl)))
    try simp only [pna, pnb, pnc, pnd, pne]
    (refine hP 14 ?_ ⟨some 28, .pick (.tmp 22) (.tmp 27) (.const (.bool false)), 4, "", #[], none⟩ hS ?_ ?_; rotate_left; focus (intro w; go_simp; try with_reducible rfl))
    try simp only [pna, pnb, pnc, pnd, pne]
    (refine hP 15 ?_ ⟨some 4, .assign (.tmp 28), 4, "", #[], none⟩ hS ?_ ?_; rotate_left; focus (intro w; go_simp; try with_reducible rfl))
    try simp only [pna, pnb, pnc, pnd, pne]
    refine wpAnyH_done (by kernel_rfl) ?_ _
    have hbZ := hb0.trans (hS.mono hb0.size)
    obtain ⟨b1, b2, b3⟩ := id (B0.keep hS)
    clear hcn hli hzl B0 hb0 hS
    cases x1
    ·go_wp2_with fail
     refine (q1 _).mono ?_
     rintro e w1 ⟨rfl, rfl⟩
     go_wp2_with fail
     go_ret
     exact ⟨rfl, hbZ⟩
    ·cases x2
     ·go_wp2_with fail
      refine (q1 _).mono ?_
      rintro e w1 ⟨rfl, rfl⟩
      go_wp2_with fail
      refine (q2 _).mono ?_
      rintro e w1 ⟨rfl, rfl⟩
      go_wp2_with fail
      go_ret
      exact ⟨rfl, hbZ⟩
     ·cases x3
      ·go_wp2_with fail
       refine (q1 _).mono ?_
       rintro e w1 ⟨rfl, rfl⟩
       go_wp2_with fail
       refine (q2 _).mono ?_
       rintro e w1 ⟨rfl, rfl⟩
       go_wp2_with fail
       refine (q3 _).mono ?_
       rintro e w1 ⟨rfl, rfl⟩
       go_wp2_with fail
       go_ret
       exact ⟨rfl, hbZ⟩
      ·cases x4
       ·go_wp2_with fail
        refine (q1 _).mono ?_
        rintro e w1 ⟨rfl, rfl⟩
        go_wp2_with fail
        refine (q2 _).mono ?_
        rintro e w1 ⟨rfl, rfl⟩
        go_wp2_with fail
        refine (q3 _).mono ?_
        rintro e w1 ⟨rfl, rfl⟩
        go_wp2_with fail
        refine (q4 _).mono ?_
        rintro e w1 ⟨rfl, rfl⟩
        go_wp2_with fail
        go_ret
        exact ⟨rfl, hbZ⟩
       ·go_wp2_with fail
        refine (q1 _).mono ?_
        rintro e w1 ⟨rfl, rfl⟩
        go_wp2_with fail
        refine (q2 _).mono ?_
        rintro e w1 ⟨rfl, rfl⟩
        go_wp2_with fail
        refine (q3 _).mono ?_
        rintro e w1 ⟨rfl, rfl⟩
        go_wp2_with fail
        refine (q4 _).mono ?_
        rintro e w1 ⟨rfl, rfl⟩
        go_wp2_with fail
        refine (q5 _).mono ?_
        rintro e w1 ⟨rfl, rfl⟩
        go_wp2_with fail
        go_ret
        exact ⟨rfl, hbZ⟩
   ·simp only [Bool.not_true, Bool.false_and]
    go_enter Tryz.func74, Tryz.ntmps74
    go_wp2_with fail
    refine wpH_start (by kernel_rfl) (fun hS => ?_)
    (refine hP 0 ?_ ⟨some 14, .fieldAddr 48 (.tmp 1) 10, 0, "", #[], none⟩ hS ?_ ?_; rotate_left; focus (intro w; go_simp; try with_reducible rfl))
    try simp only [pna, pnb, pnc, pnd, pne]
    refine wpH_load 1 (.slice ka K.length kc) (oi := { dst := some 15, op := Op.load 24 (Operand.tmp 14), type := 24, pos := "header.go:37", after := #[{ on := 0, ground := Ground.data }], guard := none }) rfl (by kernel_rfl) (by kernel_rfl) (by kernel_rfl) (by rfl) hS (fun _ _ _ h => h) (fun w hb2 => (by have c := (B0.keep hb2).cell 10; go_simp; try rfl)) ?_
    try simp only [pna, pnb, pnc, pnd, pne]
    (refine hP 2 ?_ ⟨some 16, .call { callee := .builtin .len, args := #[.tmp 15], argTypes := #[24] }, 3, "", #[], none⟩ hS ?_ ?_; rotate_left; focus (intro w; go_simp; try with_reducible rfl))
    try simp only [pna, pnb, pnc, pnd, pne]
    (refine hP 3 ?_ ⟨some 17, .fieldAddr 48 (.tmp 1) 0, 0, "", #[], none⟩ hS ?_ ?_; rotate_left; focus (intro w; go_simp; try with_reducible rfl))
    try simp only [pna, pnb, pnc, pnd, pne]
    refine wpH_load 4 (.int .i64 a1) (oi := { dst := some 18, op := Op.load 3 (Operand.tmp 17), type := 3, pos := "header.go:37", after := #[{ on := 3, ground := Ground.data }], guard := none }) rfl (by kernel_rfl) (by kernel_rfl) (by kernel_rfl) (by rfl) hS (fun _ _ _ h => h) (fun w hb2 => (by have c := (B0.keep hb2).cell 0; go_simp; try rfl)) ?_
    try simp only [pna, pnb, pnc, pnd, pne]
    refine wpH_call 5 (oi := { dst := some 19, op := Op.call { callee := Callee.value (Operand.func 86), args := #[Operand.tmp 18], argTypes := #[3] }, type := 111, pos := "header.go:37", after := #[{ on := 4, ground := Ground.data }], guard := none }) rfl (by kernel_rfl) (by rfl) (hli _) ?_ ?_
    ·(go_simp; try rfl)
    rintro e w' ⟨vl, rfl, hzl, hbx⟩
    refine ⟨_, rfl, hS.trans (hbx.mono hS.size), ?_⟩
    replace hS := hS.trans (hbx.mono hS.size)
    obtain ⟨za, zc, rfl⟩ := hzl.form
    try simp only [pna, pnb, pnc, pnd, pne]
    (refine hP 6 ?_ ⟨some 20, .call { callee := .builtin .len, args := #[.tmp 19], argTypes := #[111] }, 3, "", #[], none⟩ hS ?_ ?_; rotate_left; focus (intro w; go_simp; try with_reducible rfl))
    try simp only [pna, pnb, pnc, pnd, pne]
    (refine hP 7 ?_ ⟨some 21, .binOp .eql 3 (.tmp 16) (.tmp 20) 3, 4, "", #[], none⟩ hS ?_ ?_; rotate_left; focus (intro w; go_simp; try with_reducible rfl))
    try simp only [pna, pnb, pnc, pnd, pne]
    (refine hP 8 ?_ ⟨some 22, .move (.tmp 21), 4, "", #[], none⟩ hS ?_ ?_; rotate_left; focus (intro w; go_simp; try with_reducible rfl))
    try simp only [pna, pnb, pnc, pnd, pne]
    (first | (refine hN 9 ⟨some 23, .fieldAddr 48 (.tmp 1) 10, 0, "", #[], some (8, true)⟩ hS ?_) | (refine hP 9 ?_ ⟨some 23, .fieldAddr 48 (.tmp 1) 10, 0, "", #[], some (8, true)⟩ hS ?_ ?_; rotate_left; focus (intro w; go_simp; try with_reducible rfl)))
    try simp only [pna, pnb, pnc, pnd, pne]
    refine wpH_load 10 (.slice ka K.length kc) (oi := { dst := some 24, op := Op.load 24 (Operand.tmp 23), type := 24, pos := "header.go:37", after := #[{ on := 9, ground := Ground.data }, { on := 8, ground := Ground.guard }], guard := some (8, true) }) rfl (by kernel_rfl) (by kernel_rfl) (by kernel_rfl) (by rfl) hS (fun _ _ _ h => h) (fun w hb2 => (by have c := (B0.keep hb2).cell 10; go_simp; try rfl)) ?_
    try simp only [pna, pnb, pnc, pnd, pne]
    (first | (refine hN 11 ⟨some 25, .move (.tmp 3), 165, "", #[], some (8, true)⟩ hS ?_) | (refine hP 11 ?_ ⟨some 25, .move (.tmp 3), 165, "", #[], some (8, true)⟩ hS ?_ ?_; rotate_left; focus (intro w; go_simp; try with_reducible rfl)))
    try simp only [pna, pnb, pnc, pnd, pne]
    refine wpH_call 12 (oi := { dst := some 26, op := Op.call { callee := Callee.value (Operand.func 110), args := #[Operand.tmp 24, Operand.tmp 25], argTypes := #[24, 165] }, type := 4, pos := "header.go:37", after := #[{ on := 10, ground := Ground.data }, { on := 11, ground := Ground.data }, { on := 8, ground := Ground.chain }, { on := 8, ground := Ground.guard }], guard := some (8, true) }) rfl (by kernel_rfl) (by rfl) (hcn _ (hb0.trans (hS.mono hb0.size))) ?_ ?_
    ·(go_simp; try rfl)
    rintro e w' ⟨rfl, nn, rfl⟩
    refine ⟨_, rfl, below_drewN hS nn, ?_⟩
    replace hS := below_drewN hS nn
    try simp only [pna, pnb, pnc, pnd, pne]
    (first | (refine hN 13 ⟨some 27, .unOp .not 4 (.tmp 26), 4, "", #[], some (8, true)⟩ hS ?_) | (refine hP 13 ?_ ⟨some 27, .unOp .not 4 (.tmp 26), 4, "", #[], some (8, true)⟩ hS ?_ ?_; rotate_left; focus (intro w; go_simp; try with_reducible rfl)))
    try simp only [pna, pnb, pnc, pnd, pne]
    (refine hP 14 ?_ ⟨some 28, .pick (.tmp 22) (.tmp 27) (.const (.bool false)), 4, "", #[], none⟩ hS ?_ ?_; rotate_left; focus (intro w; go_simp; try with_reducible rfl))
    try simp only [pna, pnb, pnc, pnd, pne]
    (refine hP 15 ?_ ⟨some 4, .assign (.tmp 28), 4, "", #[], none⟩ hS ?_ ?_; rotate_left; focus (intro w; go_simp; try with_reducible rfl))
    try simp only [pna, pnb, pnc, pnd, pne]
    refine wpAnyH_done (by kernel_rfl) ?_ _
    have hbZ := hb0.trans (hS.mono hb0.size)
    obtain ⟨b1, b2, b3⟩ := id (B0.keep hS)
    clear hcn hli hzl B0 hb0 hS
    go_wp2_with fail
    go_ret
    exact ⟨rfl, hbZ⟩
  ·have e1 : ((K.length : Int) == (LK.length : Int)) = false := by simp; omega
   have e2 : decide (K.length = LK.length) = false := by simpa using hle
   have e3 : decide ((K.length : Int) = (LK.length : Int)) = false := by simp; omega
   have e4 : (K.length == LK.length) = false := by simpa using hle
   rw [e2, Bool.false_and, Bool.false_and]
   clear hle
   go_enter Tryz.func74, Tryz.ntmps74
   go_wp2_with fail
   refine wpH_start (by kernel_rfl) (fun hS => ?_)
   (refine hP 0 ?_ ⟨some 14, .fieldAddr 48 (.tmp 1) 10, 0, "", #[], none⟩ hS ?_ ?_; rotate_left; focus (intro w; go_simp; try with_reducible rfl))
   try simp only [pna, pnb, pnc, pnd, pne]
   refine wpH_load 1 (.slice ka K.length kc) (oi := { dst := some 15, op := Op.load 24 (Operand.tmp 14), type := 24, pos := "header.go:37", after := #[{ on := 0, ground := Ground.data }], guard := none }) rfl (by kernel_rfl) (by kernel_rfl) (by kernel_rfl) (by rfl) hS (fun _ _ _ h => h) (fun w hb2 => (by have c := (B0.keep hb2).cell 10; go_simp; try rfl)) ?_
   try simp only [pna, pnb, pnc, pnd, pne]
   (refine hP 2 ?_ ⟨some 16, .call { callee := .builtin .len, args := #[.tmp 15], argTypes := #[24] }, 3, "", #[], none⟩ hS ?_ ?_; rotate_left; focus (intro w; go_simp; try with_reducible rfl))
   try simp only [pna, pnb, pnc, pnd, pne]
   (refine hP 3 ?_ ⟨some 17, .fieldAddr 48 (.tmp 1) 0, 0, "", #[], none⟩ hS ?_ ?_; rotate_left; focus (intro w; go_simp; try with_reducible rfl))
   try simp only [pna, pnb, pnc, pnd, pne]
   refine wpH_load 4 (.int .i64 a1) (oi := { dst := some 18, op := Op.load 3 (Operand.tmp 17), type := 3, pos := "header.go:37", after := #[{ on := 3, ground := Ground.data }], guard := none }) rfl (by kernel_rfl) (by kernel_rfl) (by kernel_rfl) (by rfl) hS (fun _ _ _ h => h) (fun w hb2 => (by have c := (B0.keep hb2).cell 0; go_simp; try rfl)) ?_
   try simp only [pna, pnb, pnc, pnd, pne]
   refine wpH_call 5 (oi := { dst := some 19, op := Op.call { callee := Callee.value (Operand.func 86), args := #[Operand.tmp 18], argTypes := #[3] }, type := 111, pos := "header.go:37", after := #[{ on := 4, ground := Ground.data }], guard := none }) rfl (by kernel_rfl) (by rfl) (hli _) ?_ ?_
   ·(go_simp; try rfl)
   rintro e w' ⟨vl, rfl, hzl, hbx⟩
   refine ⟨_, rfl, hS.trans (hbx.mono hS.size), ?_⟩
   replace hS := hS.trans (hbx.mono hS.size)
   obtain ⟨za, zc, rfl⟩ := hzl.form
   try simp only [pna, pnb, pnc, pnd, pne]
   (refine hP 6 ?_ ⟨some 20, .call { callee := .builtin .len, args := #[.tmp 19], argTypes := #[111] }, 3, "", #[], none⟩ hS ?_ ?_; rotate_left; focus (intro w; go_simp; try with_reducible rfl))
   try simp only [pna, pnb, pnc, pnd, pne]
   (refine hP 7 ?_ ⟨some 21, .binOp .eql 3 (.tmp 16) (.tmp 20) 3, 4, "", #[], none⟩ hS ?_ ?_; rotate_left; focus (intro w; go_simp; try with_reducible rfl))
   try simp only [pna, pnb, pnc, pnd, pne]
   (refine hP 8 ?_ ⟨some 22, .move (.tmp 21), 4, "", #[], none⟩ hS ?_ ?_; rotate_left; focus (intro w; go_simp; try with_reducible rfl))
   try simp only [pna, pnb, pnc, pnd, pne]
   (first | (refine hN 9 ⟨some 23, .fieldAddr 48 (.tmp 1) 10, 0, "", #[], some (8, true)⟩ hS ?_) | (refine hP 9 ?_ ⟨some 23, .fieldAddr 48 (.tmp 1) 10, 0, "", #[], some (8, true)⟩ hS ?_ ?_; rotate_left; focus (intro w; go_simp; try with_reducible rfl)))
   try simp only [pna, pnb, pnc, pnd, pne]
   refine hN 10 ⟨some 24, .load 24 (.tmp 23), 24, "", #[], some (8, true)⟩ hS ?_
   try simp only [pna, pnb, pnc, pnd, pne]
   (first | (refine hN 11 ⟨some 25, .move (.tmp 3), 165, "", #[], some (8, true)⟩ hS ?_) | (refine hP 11 ?_ ⟨some 25, .move (.tmp 3), 165, "", #[], some (8, true)⟩ hS ?_ ?_; rotate_left; focus (intro w; go_simp; try with_reducible rfl)))
   try simp only [pna, pnb, pnc, pnd, pne]
   refine hN 12 ⟨some 26, .call { callee := .value (.func 110), args := #[.tmp 24, .tmp 25], argTypes := #[24, 165] }, 4, "", #[], some (8, true)⟩ hS ?_
   try simp only [pna, pnb, pnc, pnd, pne]
   (first | (refine hN 13 ⟨some 27, .unOp .not 4 (.tmp 26), 4, "", #[], some (8, true)⟩ hS ?_) | (refine hP 13 ?_ ⟨some 27, .unOp .not 4 (.tmp 26), 4, "", #[], some (8, true)⟩ hS ?_ ?_; rotate_left; focus (intro w; go_simp; try with_reducible rfl)))
   try simp only [pna, pnb, pnc, pnd, pne]
   (refine hP 14 ?_ ⟨some 28, .pick (.tmp 22) (.tmp 27) (.const (.bool false)), 4, "", #[], none⟩ hS ?_ ?_; rotate_left; focus (intro w; go_simp; try with_reducible rfl))
   try simp only [pna, pnb, pnc, pnd, pne]
   (refine hP 15 ?_ ⟨some 4, .assign (.tmp 28), 4, "", #[], none⟩ hS ?_ ?_; rotate_left; focus (intro w; go_simp; try with_reducible rfl))
   try simp only [pna, pnb, pnc, pnd, pne]
   refine wpAnyH_done (by kernel_rfl) ?_ _
   have hbZ := hb0.trans (hS.mono hb0.size)
   obtain ⟨b1, b2, b3⟩ := id (B0.keep hS)
   clear hcn hli hzl B0 hb0 hS
   go_wp2_with fail
   go_ret
   exact ⟨rfl, hbZ⟩
 ·have d1 : decide (0 < a1) = false := by simpa using h1
  rw [if_neg h1]
  clear h1 hcn B0
  by_cases h2 : K.length = 0
  ·have e1 : decide (K = []) = true := by simpa using h2
   have e2 : ((K.length : Int) == 0) = true := by simpa using h2
   have e3 : decide ((K.length : Int) = 0) = true := by simpa using h2
   rw [e1, Bool.true_and]
   clear e1
   rw [h2] at b1 hb0 e2 e3 ⊢
   go_enter Tryz.func74, Tryz.ntmps74
   cases x1
   ·go_wp2_with fail
    refine (q1 _).mono ?_
    rintro e w1 ⟨rfl, rfl⟩
    go_wp2_with fail
    go_ret
    exact ⟨rfl, hb0⟩
   ·cases x2
    ·go_wp2_with fail
     refine (q1 _).mono ?_
     rintro e w1 ⟨rfl, rfl⟩
     go_wp2_with fail
     refine (q2 _).mono ?_
     rintro e w1 ⟨rfl, rfl⟩
     go_wp2_with fail
     go_ret
     exact ⟨rfl, hb0⟩
    ·cases x3
     ·go_wp2_with fail
      refine (q1 _).mono ?_
      rintro e w1 ⟨rfl, rfl⟩
      go_wp2_with fail
      refine (q2 _).mono ?_
      rintro e w1 ⟨rfl, rfl⟩
      go_wp2_with fail
      refine (q3 _).mono ?_
      rintro e w1 ⟨rfl, rfl⟩
      go_wp2_with fail
      go_ret
      exact ⟨rfl, hb0⟩
     ·cases x4
      ·go_wp2_with fail
       refine (q1 _).mono ?_
       rintro e w1 ⟨rfl, rfl⟩
       go_wp2_with fail
       refine (q2 _).mono ?_
       rintro e w1 ⟨rfl, rfl⟩
       go_wp2_with fail
       refine (q3 _).mono ?_
       rintro e w1 ⟨rfl, rfl⟩
       go_wp2_with fail
       refine (q4 _).mono ?_
       rintro e w1 ⟨rfl, rfl⟩
       go_wp2_with fail
       go_ret
       exact ⟨rfl, hb0⟩
      ·go_wp2_with fail
       refine (q1 _).mono ?_
       rintro e w1 ⟨rfl, rfl⟩
       go_wp2_with fail
       refine (q2 _).mono ?_
       rintro e w1 ⟨rfl, rfl⟩
       go_wp2_with fail
       refine (q3 _).mono ?_
       rintro e w1 ⟨rfl, rfl⟩
       go_wp2_with fail
       refine (q4 _).mono ?_
       rintro e w1 ⟨rfl, rfl⟩
       go_wp2_with fail
       refine (q5 _).mono ?_
       rintro e w1 ⟨rfl, rfl⟩
       go_wp2_with fail
       go_ret
       exact ⟨rfl, hb0⟩
  ·have e1 : decide (K = []) = false := by simpa using h2
   have e2 : ((K.length : Int) == 0) = false := by simpa using h2
   have e3 : decide ((K.length : Int) = 0) = false := by simpa using h2
   have e4 : decide (K.length = 0) = false := by simpa using h2
   rw [e1, Bool.false_and]
   clear e1 h2
   go_enter Tryz.func74, Tryz.ntmps74
   go_wp2_with fail
   go_ret
   exact ⟨rfl, hb0⟩
def codeH (b : Bool) : Int := if b then 0 else 190
theorem hd_check (a1 a2 a3 : Int) (lb : Bool) (pa st rc tx me ne : Bs) (K : List Bs) (sk : Value) (w : World) (hk : SS w sk K) :
  Calls Tryz.prog 37 #[.agg #[.int .i64 a1, .int .i64 a2, .int .i64 a3, .bool lb, .string ⟨List.toArray pa⟩, .string ⟨List.toArray st⟩, .string ⟨List.toArray rc⟩, .string ⟨List.toArray tx⟩, .string ⟨List.toArray me⟩, .string ⟨List.toArray ne⟩, sk]] w fun e w' => e = .returned (.int .i64 (codeH (fineH ⟨a1, a2, a3, lb, pa, st, rc, tx, me, ne, K⟩))) ∧ Below w.heap.size w w' := by
 have hb0 : Below w.heap.size w (w.alloc (.cells #[.int .i64 a1, .int .i64 a2, .int .i64 a3, .bool lb, .string ⟨List.toArray pa⟩, .string ⟨List.toArray st⟩, .string ⟨List.toArray rc⟩, .string ⟨List.toArray tx⟩, .string ⟨List.toArray me⟩, .string ⟨List.toArray ne⟩, sk] 48)) := Below.allocS (Below.refl _ _) _
 have B0 : Blk (w.alloc (.cells #[.int .i64 a1, .int .i64 a2, .int .i64 a3, .bool lb, .string ⟨List.toArray pa⟩, .string ⟨List.toArray st⟩, .string ⟨List.toArray rc⟩, .string ⟨List.toArray tx⟩, .string ⟨List.toArray me⟩, .string ⟨List.toArray ne⟩, sk] 48)) w.heap.size #[.int .i64 a1, .int .i64 a2, .int .i64 a3, .bool lb, .string ⟨List.toArray pa⟩, .string ⟨List.toArray st⟩, .string ⟨List.toArray rc⟩, .string ⟨List.toArray tx⟩, .string ⟨List.toArray me⟩, .string ⟨List.toArray ne⟩, sk] := Blk.new _ _ _
 have q1 := fun W => hd_numbers a1 a2 a3 lb pa st rc tx me ne sk W
 have q2 := fun W => hd_first a1 a2 a3 lb pa st rc tx me ne K sk W
 have q3 := fun W (hb : Below w.heap.size w W) => hd_sums a1 a2 a3 lb pa st rc tx me ne K sk W (hk.keep hb)
 have hF : fineH ⟨a1, a2, a3, lb, pa, st, rc, tx, me, ne, K⟩ = ((inH a1 1048576 && inH a2 1048576 && inH a3 1048576) && firstH ⟨a1, a2, a3, lb, pa, st, rc, tx, me, ne, K⟩ && sumsH ⟨a1, a2, a3, lb, pa, st, rc, tx, me, ne, K⟩ && (lb || decide (ne = me))) := rfl
 rw [hF]
 clear hF hk
 generalize (inH a1 1048576 && inH a2 1048576 && inH a3 1048576) = x1 at *
 generalize firstH ⟨a1, a2, a3, lb, pa, st, rc, tx, me, ne, K⟩ = x2 at *
 generalize sumsH ⟨a1, a2, a3, lb, pa, st, rc, tx, me, ne, K⟩ = x3 at *
 generalize hr : codeH (x1 && x2 && x3 && (lb || decide (ne = me))) = r
 have HR := Lib.hid hr
 clear hr
 obtain ⟨b1, b2, b3⟩ := id B0
 go_enter Tryz.func37, Tryz.ntmps37
 go_wp2_with fail
 refine (q1 _).mono ?_
 rintro e w1 ⟨rfl, hb⟩
 have hb1 := hb0.trans (hb.mono hb0.size)
 have B1 := B0.keep hb
 clear q1 hb b1 b2 b3 B0 hb0
 obtain ⟨b1, b2, b3⟩ := id B1
 cases x1
 ·go_wp2_with fail
  go_ret
  exact ⟨by rw [← HR.out]; rfl, hb1⟩
 go_wp2_with fail
 refine (q2 _).mono ?_
 rintro e w2 ⟨rfl, hb⟩
 have hb2 := hb1.trans (hb.mono hb1.size)
 have B2 := B1.keep hb
 clear q2 hb b1 b2 b3 B1 hb1
 obtain ⟨b1, b2, b3⟩ := id B2
 cases x2
 ·go_wp2_with fail
  go_ret
  exact ⟨by rw [← HR.out]; rfl, hb2⟩
 go_wp2_with fail
 refine (q3 _ hb2).mono ?_
 rintro e w3 ⟨rfl, hb⟩
 have hb3 := hb2.trans (hb.mono hb2.size)
 have B3 := B2.keep hb
 clear q3 hb b1 b2 b3 B2 hb2
 obtain ⟨b1, b2, b3⟩ := id B3
 cases x3
 ·go_wp2_with fail
  go_ret
  exact ⟨by rw [← HR.out]; rfl, hb3⟩
 cases lb
 ·by_cases h : ne = me
  ·subst h
   go_wp2_with fail
   go_ret
   exact ⟨by rw [← HR.out]; simp [codeH], hb3⟩
  ·have e1 : decide (ne = me) = false := by simpa using h
   have e2 : (ne == me) = false := by simpa using h
   have e3 : (ne != me) = true := by simpa using h
   have HE := Lib.hid e1
   clear h
   go_wp2_with fail
   go_ret
   exact ⟨by rw [← HR.out, HE.out]; rfl, hb3⟩
 ·go_wp2_with fail
  go_ret
  exact ⟨by rw [← HR.out]; rfl, hb3⟩
end Go.Proofs.YthkpmlfaddlieaaGreatDoor
namespace Go.Proofs.YthkpmlfaddlieaaGreatDoor
namespace Pl
theorem mNumB (n : Nat) (h : n < 9223372036854775808) (r : Bs) : mNum (num n ++ r) 0 = (n, r, 0) := by
 unfold mNum
 rw [take_num n h r]
 simp
theorem mSk_all (r : Bs) : ∀ (l : List Bs), (∀ x ∈ l, x.length = 32) → ∀ m, m ≤ l.length → mSk (l.flatten ++ r) 0 m = (l.take m, (l.drop m).flatten ++ r, 0)
 | l, h, 0, _ => by simp [mSk]
 | l, h, m + 1, hm => by
  unfold mSk
  rw [mSk_all r l h m (by omega)]
  simp only
  have b := mBytes_app l[m] 32 (h _ (List.getElem_mem _)) ((l.drop (m + 1)).flatten ++ r)
  simp only [Int.cast_ofNat_Int] at b
  rw [List.drop_eq_getElem_cons (show m < l.length by omega), List.flatten_cons, List.append_assoc, b, List.take_add_one, List.getElem?_eq_getElem (show m < l.length by omega)]
  rfl
theorem flat_len32 : ∀ (l : List Bs), (∀ x ∈ l, x.length = 32) → l.flatten.length = 32 * l.length
 | [], _ => rfl
 | x :: l, h => by
  rw [List.flatten_cons, List.length_append, h x (by simp), flat_len32 l (fun y hy => h y (by simp [hy])), List.length_cons]
  omega
structure FineH (h : Hd) : Prop where
 hn : 0 ≤ h.height ∧ h.height ≤ 1048576
 en : 0 ≤ h.epoch ∧ h.epoch ≤ 1048576
 vn : 0 ≤ h.view ∧ h.view ≤ 1048576
 txs : h.txs.length = 32
 members : h.members.length = 32
 next : h.next.length = 32
 state : h.state.length ≤ 32
 receipts : h.receipts.length ≤ 32
 parent : h.parent.length ≤ 32
 skl : h.skips.length = (linksF h.height).length
 sk : ∀ x ∈ h.skips, x.length = 32
theorem may_le {s : Bs} (h : may32 s = true) : s.length ≤ 32 := by
 unfold may32 at h
 simp only [Bool.or_eq_true, decide_eq_true_eq] at h
 rcases h with h | h
 ·subst h; simp
 ·omega
theorem fine_parts {h : Hd} (hf : fineH h = true) : FineH h := by
 rw [← fineHR_eq] at hf
 unfold fineHR numsH inH endH at hf
 simp only [Bool.and_eq_true, decide_eq_true_eq, List.all_eq_true] at hf
 obtain ⟨⟨⟨⟨h1, h2⟩, h3⟩, h4⟩, h5⟩ := hf
 refine ⟨h1.1.1, h1.1.2, h1.2, h2.1.1.1.1, h2.1.1.1.2, h2.1.1.2, may_le h2.1.2, may_le h2.2, ?_, h3, h4⟩
 split at h5
 ·simp only [Bool.and_eq_true, decide_eq_true_eq] at h5
  rw [h5.1.1.1]
  simp
 ·simp only [Bool.and_eq_true, decide_eq_true_eq] at h5
  omega
theorem rdH_writ {h : Hd} (hf : fineH h = true) (r : Bs) : rdH (writH h ++ r) = ⟨h, r, 0⟩ := by
 have p := fine_parts hf
 have e1 := p.hn
 have e2 := p.en
 have e3 := p.vn
 have hs := p.skl
 have hk := mSk_all r h.skips p.sk h.skips.length (Nat.le_refl _)
 rw [List.take_length, List.drop_length, List.flatten_nil, List.nil_append] at hk
 unfold rdH writH
 simp only [List.append_assoc]
 rw [mNumB _ (by omega)]
 simp only
 rw [mNumB _ (by omega)]
 simp only
 rw [mNumB _ (by omega)]
 simp only
 rw [mFlag_flag]
 simp only
 rw [mText_text _ 32 (by have := p.parent; omega) (by have := p.parent; omega)]
 simp only
 rw [mText_text _ 32 (by have := p.state; omega) (by have := p.state; omega)]
 simp only
 rw [mText_text _ 32 (by have := p.receipts; omega) (by have := p.receipts; omega)]
 simp only
 have b1 := mBytes_app h.txs 32 p.txs (h.members ++ (h.next ++ (h.skips.flatten ++ r)))
 have b2 := mBytes_app h.members 32 p.members (h.next ++ (h.skips.flatten ++ r))
 have b3 := mBytes_app h.next 32 p.next (h.skips.flatten ++ r)
 simp only [Int.cast_ofNat_Int] at b1 b2 b3
 rw [b1]
 simp only
 rw [b2]
 simp only
 rw [b3]
 simp only
 rw [show ((h.height.toNat : Nat) : Int) = h.height from by omega, show ((h.epoch.toNat : Nat) : Int) = h.epoch from by omega, show ((h.view.toNat : Nat) : Int) = h.view from by omega, ← hs, hk]
theorem decH_writ {h : Hd} (hf : fineH h = true) : decH (writH h) = (h, 0) := by
 have := rdH_writ hf []
 rw [List.append_nil] at this
 unfold decH
 rw [this]
 exact if_pos ⟨rfl, hf⟩
theorem num_len' (n : Nat) : (num n).length ≤ 9 := by
 unfold num
 have := digs_len 8 n
 simp
 omega
theorem writH_len {h : Hd} (hf : fineH h = true) : (writH h).length ≤ 1000 := by
 have p := fine_parts hf
 have hl := linksF_len h.height
 have h1 := num_len' h.height.toNat
 have h2 := num_len' h.epoch.toNat
 have h3 := num_len' h.view.toNat
 have h4 := text_len h.parent
 have h5 := text_len h.state
 have h6 := text_len h.receipts
 have h7 := p.txs
 have h8 := p.members
 have h9 := p.next
 have h10 := flat_len32 h.skips p.sk
 have h11 := p.parent
 have h12 := p.state
 have h13 := p.receipts
 have h14 := p.skl
 have h15 : (flagB h.last).length = 1 := by cases h.last <;> rfl
 unfold writH
 simp only [List.length_append]
 omega
end Pl
end Go.Proofs.YthkpmlfaddlieaaGreatDoor
