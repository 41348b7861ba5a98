/- Walk of the statement NodeWrites. -/
import Derived.Test.YtmldonbmjgelnaaDoorNodeW
import Derived.Test.YtmldonbmjgelnaaDoorWorks8
set_option linter.unusedSimpArgs false
set_option linter.unusedVariables false
namespace Go.Proofs.YtmldonbmjgelnaaDoor
open Go.RowKit Pl

theorem row_node : RowT Tryd.prog 24 19 := RowT.mk' Tryd.underlying24 rfl nd_info

set_option maxRecDepth 100000 in
set_option maxHeartbeats 2000000 in
theorem writes_any (k : Int) (p v : Bs) (kid : Nat → Bs) (w : World) (hk : KT w) :
    Calls Tryd.prog 4 #[.agg (nd k p v kid).toArray] w fun e w' => e = .returned (.bool true) ∧ Below w.heap.size w w' := by
  have hN0 := Blk.new w (nd k p v kid).toArray 24
  have hb0 : Below w.heap.size w (w.alloc (.cells (nd k p v kid).toArray 24)) := Below.allocS (Below.refl _ _) _
  go_enter Tryd.func4, Tryd.ntmps4
  go_wp2_with (refine wpList_node rfl (.tmp 1) rfl rfl hN0 ?_)
  refine (big_any k p v kid _).mono ?_
  rintro e w1 ⟨rfl, hb⟩
  have N1 := hN0.keep hb
  have hb1 := hb0.trans (hb.mono hb0.size)
  clear hN0 hb0 hb
  cases hB : bigB p v kid
  · have hp := (big_no hB).1
    clear hB
    go_wp2_with (refine wpList_node rfl (.tmp 1) rfl rfl N1 ?_)
    refine (encode_any k p v kid (by omega) _).mono ?_
    rintro e w2 ⟨rfl, hb⟩
    have N2 := N1.keep hb
    have hb2 := hb1.trans (hb.mono hb1.size)
    clear N1 hb1 hb
    go_wp2_with (refine wpList_node rfl (.tmp 1) rfl rfl N2 ?_)
    refine (rencode_any k p v kid (by omega) _).mono ?_
    rintro e w3 ⟨rfl, hb⟩
    have N3 := N2.keep hb
    have hb3 := hb2.trans (hb.mono hb2.size)
    clear N2 hb2 hb
    go_wp2_with (refine wpList_node rfl (.tmp 1) rfl rfl N3 ?_)
    refine (kids_any k p v kid _).mono ?_
    rintro e w4 ⟨x, cap, rfl, hSK, hb⟩
    have N4 := N3.keep hb
    have hb4 := hb3.trans (hb.mono hb3.size)
    have h34 := N3.lt
    clear N3 hb3
    have HS := hSK.ss
    go_wp2_with fail
    refine wpH_start (by kernel_rfl) (fun hS => ?_)
    refine wpH_row row_node 0 (oi := { dst := some 23, op := Op.load 24 (Operand.tmp 1), type := 24, pos := "law.go:29", after := #[], guard := none }) rfl (by kernel_rfl) (by kernel_rfl) (by kernel_rfl) (by rfl) hS (vs := nd k p v kid) (fun _ _ _ h => h) (.tmp 1) rfl rfl (nd_len _ _ _ _) (fun w hb => N4.keep hb) ?_
    try simp only [Act.put, List.setIfInBounds_toArray, List.set_cons_zero, List.set_cons_succ]
    refine wpH_row row_node 2 (oi := { dst := some 25, op := Op.load 24 (Operand.tmp 1), type := 24, pos := "law.go:29", after := #[], guard := none }) rfl (by kernel_rfl) (by kernel_rfl) (by kernel_rfl) (by rfl) hS (vs := nd k p v kid) (fun _ _ _ h => h) (.tmp 1) rfl rfl (nd_len _ _ _ _) (fun w hb => N4.keep hb) ?_
    try simp only [Act.put, List.setIfInBounds_toArray, List.set_cons_zero, List.set_cons_succ]
    refine wpH_call 1 (oi := { dst := some 24, op := Op.call { callee := Callee.value (Operand.func 17), args := #[Operand.tmp 23], argTypes := #[24] }, type := 27, pos := "law.go:29", after := #[{ on := 0, ground := Ground.data }], guard := none }) rfl (by kernel_rfl) (by rfl) (check_any k p v kid (by omega) _) ?_ ?_
    · (go_simp; try rfl)
    rintro e w' ⟨rfl, hbx⟩
    refine ⟨_, rfl, hS.trans (hbx.mono hS.size), ?_⟩
    replace hS := hS.trans (hbx.mono hS.size)
    try simp only [Act.put, List.setIfInBounds_toArray, List.set_cons_zero, List.set_cons_succ]
    refine wpH_call 3 (oi := { dst := some 26, op := Op.call { callee := Callee.value (Operand.func 21), args := #[Operand.tmp 25], argTypes := #[24] }, type := 27, pos := "law.go:29", after := #[{ on := 2, ground := Ground.data }, { on := 1, ground := Ground.chain }], guard := none }) rfl (by kernel_rfl) (by rfl) (rcheck_any k p v kid (by omega) _) ?_ ?_
    · (go_simp; try rfl)
    rintro e w' ⟨rfl, hbx⟩
    refine ⟨_, rfl, hS.trans (hbx.mono hS.size), ?_⟩
    replace hS := hS.trans (hbx.mono hS.size)
    try simp only [Act.put, List.setIfInBounds_toArray, List.set_cons_zero, List.set_cons_succ]
    (refine wpH_pure 4 ?_ (oi := { dst := some 27, op := Op.binOp BinOp.neq 27 (Operand.tmp 24) (Operand.tmp 26) 27, type := 4, pos := "law.go:29", after := #[{ on := 1, ground := Ground.data }, { on := 3, ground := Ground.data }], guard := none }) rfl (by kernel_rfl) (by kernel_rfl) (by kernel_rfl) (by rfl) hS (fun _ _ _ h => h) ?_ ?_; rotate_left; focus (intro w; go_simp; try with_reducible rfl))
    try simp only [Act.put, List.setIfInBounds_toArray, List.set_cons_zero, List.set_cons_succ]
    (refine wpH_pure 5 ?_ (oi := { dst := some 28, op := Op.move (Operand.tmp 27), type := 4, pos := "law.go:29", after := #[{ on := 4, ground := Ground.data }, { on := 3, ground := Ground.chain }], guard := none }) rfl (by kernel_rfl) (by kernel_rfl) (by kernel_rfl) (by rfl) hS (fun _ _ _ h => h) ?_ ?_; rotate_left; focus (intro w; go_simp; try with_reducible rfl))
    try simp only [Act.put, List.setIfInBounds_toArray, List.set_cons_zero, List.set_cons_succ]
    (first | (refine wpH_skip 6 (oi := { dst := some 29, op := Op.move (Operand.tmp 3), type := 9, pos := "law.go:29", after := #[{ on := 5, ground := Ground.guard }], guard := some (5, false) }) rfl (by kernel_rfl) (by kernel_rfl) (by kernel_rfl) (by rfl) hS (fun _ _ _ h => h) ?_) | (refine wpH_pure 6 ?_ (oi := { dst := some 29, op := Op.move (Operand.tmp 3), type := 9, pos := "law.go:29", after := #[{ on := 5, ground := Ground.guard }], guard := some (5, false) }) rfl (by kernel_rfl) (by kernel_rfl) (by kernel_rfl) (by rfl) hS (fun _ _ _ h => h) ?_ ?_; rotate_left; focus (intro w; go_simp; try with_reducible rfl)))
    try simp only [Act.put, List.setIfInBounds_toArray, List.set_cons_zero, List.set_cons_succ]
    (first | (refine wpH_skip 7 (oi := { dst := some 30, op := Op.move (Operand.tmp 5), type := 9, pos := "law.go:29", after := #[{ on := 5, ground := Ground.guard }], guard := some (5, false) }) rfl (by kernel_rfl) (by kernel_rfl) (by kernel_rfl) (by rfl) hS (fun _ _ _ h => h) ?_) | (refine wpH_pure 7 ?_ (oi := { dst := some 30, op := Op.move (Operand.tmp 5), type := 9, pos := "law.go:29", after := #[{ on := 5, ground := Ground.guard }], guard := some (5, false) }) rfl (by kernel_rfl) (by kernel_rfl) (by kernel_rfl) (by rfl) hS (fun _ _ _ h => h) ?_ ?_; rotate_left; focus (intro w; go_simp; try with_reducible rfl)))
    try simp only [Act.put, List.setIfInBounds_toArray, List.set_cons_zero, List.set_cons_succ]
    (first | (refine wpH_skip 8 (oi := { dst := some 31, op := Op.binOp BinOp.neq 9 (Operand.tmp 29) (Operand.tmp 30) 9, type := 4, pos := "law.go:29", after := #[{ on := 6, ground := Ground.data }, { on := 7, ground := Ground.data }, { on := 5, ground := Ground.guard }], guard := some (5, false) }) rfl (by kernel_rfl) (by kernel_rfl) (by kernel_rfl) (by rfl) hS (fun _ _ _ h => h) ?_) | (refine wpH_pure 8 ?_ (oi := { dst := some 31, op := Op.binOp BinOp.neq 9 (Operand.tmp 29) (Operand.tmp 30) 9, type := 4, pos := "law.go:29", after := #[{ on := 6, ground := Ground.data }, { on := 7, ground := Ground.data }, { on := 5, ground := Ground.guard }], guard := some (5, false) }) rfl (by kernel_rfl) (by kernel_rfl) (by kernel_rfl) (by rfl) hS (fun _ _ _ h => h) ?_ ?_; rotate_left; focus (intro w; go_simp; try with_reducible rfl)))
    try simp only [Act.put, List.setIfInBounds_toArray, List.set_cons_zero, List.set_cons_succ]
    (refine wpH_pure 9 ?_ (oi := { dst := some 32, op := Op.pick (Operand.tmp 28) (Operand.const (Value.bool true)) (Operand.tmp 31), type := 4, pos := "law.go:29", after := #[{ on := 5, ground := Ground.data }, { on := 8, ground := Ground.data }], guard := none }) rfl (by kernel_rfl) (by kernel_rfl) (by kernel_rfl) (by rfl) hS (fun _ _ _ h => h) ?_ ?_; rotate_left; focus (intro w; go_simp; try with_reducible rfl))
    try simp only [Act.put, List.setIfInBounds_toArray, List.set_cons_zero, List.set_cons_succ]
    (refine wpH_pure 10 ?_ (oi := { dst := some 33, op := Op.move (Operand.tmp 32), type := 4, pos := "law.go:29", after := #[{ on := 9, ground := Ground.data }, { on := 5, ground := Ground.chain }], guard := none }) rfl (by kernel_rfl) (by kernel_rfl) (by kernel_rfl) (by rfl) hS (fun _ _ _ h => h) ?_ ?_; rotate_left; focus (intro w; go_simp; try with_reducible rfl))
    try simp only [Act.put, List.setIfInBounds_toArray, List.set_cons_zero, List.set_cons_succ]
    (first | (refine wpH_skip 11 (oi := { dst := some 34, op := Op.move (Operand.tmp 4), type := 27, pos := "law.go:29", after := #[{ on := 10, ground := Ground.guard }], guard := some (10, false) }) rfl (by kernel_rfl) (by kernel_rfl) (by kernel_rfl) (by rfl) hS (fun _ _ _ h => h) ?_) | (refine wpH_pure 11 ?_ (oi := { dst := some 34, op := Op.move (Operand.tmp 4), type := 27, pos := "law.go:29", after := #[{ on := 10, ground := Ground.guard }], guard := some (10, false) }) rfl (by kernel_rfl) (by kernel_rfl) (by kernel_rfl) (by rfl) hS (fun _ _ _ h => h) ?_ ?_; rotate_left; focus (intro w; go_simp; try with_reducible rfl)))
    try simp only [Act.put, List.setIfInBounds_toArray, List.set_cons_zero, List.set_cons_succ]
    (first | (refine wpH_skip 12 (oi := { dst := some 35, op := Op.move (Operand.tmp 6), type := 27, pos := "law.go:29", after := #[{ on := 10, ground := Ground.guard }], guard := some (10, false) }) rfl (by kernel_rfl) (by kernel_rfl) (by kernel_rfl) (by rfl) hS (fun _ _ _ h => h) ?_) | (refine wpH_pure 12 ?_ (oi := { dst := some 35, op := Op.move (Operand.tmp 6), type := 27, pos := "law.go:29", after := #[{ on := 10, ground := Ground.guard }], guard := some (10, false) }) rfl (by kernel_rfl) (by kernel_rfl) (by kernel_rfl) (by rfl) hS (fun _ _ _ h => h) ?_ ?_; rotate_left; focus (intro w; go_simp; try with_reducible rfl)))
    try simp only [Act.put, List.setIfInBounds_toArray, List.set_cons_zero, List.set_cons_succ]
    (first | (refine wpH_skip 13 (oi := { dst := some 36, op := Op.binOp BinOp.neq 27 (Operand.tmp 34) (Operand.tmp 35) 27, type := 4, pos := "law.go:29", after := #[{ on := 11, ground := Ground.data }, { on := 12, ground := Ground.data }, { on := 10, ground := Ground.guard }], guard := some (10, false) }) rfl (by kernel_rfl) (by kernel_rfl) (by kernel_rfl) (by rfl) hS (fun _ _ _ h => h) ?_) | (refine wpH_pure 13 ?_ (oi := { dst := some 36, op := Op.binOp BinOp.neq 27 (Operand.tmp 34) (Operand.tmp 35) 27, type := 4, pos := "law.go:29", after := #[{ on := 11, ground := Ground.data }, { on := 12, ground := Ground.data }, { on := 10, ground := Ground.guard }], guard := some (10, false) }) rfl (by kernel_rfl) (by kernel_rfl) (by kernel_rfl) (by rfl) hS (fun _ _ _ h => h) ?_ ?_; rotate_left; focus (intro w; go_simp; try with_reducible rfl)))
    try simp only [Act.put, List.setIfInBounds_toArray, List.set_cons_zero, List.set_cons_succ]
    (refine wpH_pure 14 ?_ (oi := { dst := some 37, op := Op.pick (Operand.tmp 33) (Operand.const (Value.bool true)) (Operand.tmp 36), type := 4, pos := "law.go:29", after := #[{ on := 10, ground := Ground.data }, { on := 13, ground := Ground.data }], guard := none }) rfl (by kernel_rfl) (by kernel_rfl) (by kernel_rfl) (by rfl) hS (fun _ _ _ h => h) ?_ ?_; rotate_left; focus (intro w; go_simp; try with_reducible rfl))
    try simp only [Act.put, List.setIfInBounds_toArray, List.set_cons_zero, List.set_cons_succ]
    (refine wpH_pure 15 ?_ (oi := { dst := some 38, op := Op.move (Operand.tmp 37), type := 4, pos := "law.go:29", after := #[{ on := 14, ground := Ground.data }, { on := 10, ground := Ground.chain }], guard := none }) rfl (by kernel_rfl) (by kernel_rfl) (by kernel_rfl) (by rfl) hS (fun _ _ _ h => h) ?_ ?_; rotate_left; focus (intro w; go_simp; try with_reducible rfl))
    try simp only [Act.put, List.setIfInBounds_toArray, List.set_cons_zero, List.set_cons_succ]
    (first | (refine wpH_skip 16 (oi := { dst := some 39, op := Op.move (Operand.tmp 7), type := 35, pos := "law.go:29", after := #[{ on := 15, ground := Ground.guard }], guard := some (15, false) }) rfl (by kernel_rfl) (by kernel_rfl) (by kernel_rfl) (by rfl) hS (fun _ _ _ h => h) ?_) | (refine wpH_pure 16 ?_ (oi := { dst := some 39, op := Op.move (Operand.tmp 7), type := 35, pos := "law.go:29", after := #[{ on := 15, ground := Ground.guard }], guard := some (15, false) }) rfl (by kernel_rfl) (by kernel_rfl) (by kernel_rfl) (by rfl) hS (fun _ _ _ h => h) ?_ ?_; rotate_left; focus (intro w; go_simp; try with_reducible rfl)))
    try simp only [Act.put, List.setIfInBounds_toArray, List.set_cons_zero, List.set_cons_succ]
    refine wpH_row row_node 17 (oi := { dst := some 40, op := Op.load 24 (Operand.tmp 1), type := 24, pos := "law.go:29", after := #[{ on := 15, ground := Ground.guard }], guard := some (15, false) }) rfl (by kernel_rfl) (by kernel_rfl) (by kernel_rfl) (by rfl) hS (vs := nd k p v kid) (fun _ _ _ h => h) (.tmp 1) rfl rfl (nd_len _ _ _ _) (fun w hb => N4.keep hb) ?_
    try simp only [Act.put, List.setIfInBounds_toArray, List.set_cons_zero, List.set_cons_succ]
    refine wpH_call 18 (oi := { dst := some 41, op := Op.call { callee := Callee.value (Operand.func 23), args := #[Operand.tmp 40], argTypes := #[24] }, type := 35, pos := "law.go:29", after := #[{ on := 17, ground := Ground.data }, { on := 15, ground := Ground.chain }, { on := 15, ground := Ground.guard }], guard := some (15, false) }) rfl (by kernel_rfl) (by rfl) (rkids_any k p v kid _) ?_ ?_
    · (go_simp; try rfl)
    rintro e w' ⟨x2, cap2, rfl, hS2, hbx⟩
    refine ⟨_, rfl, hS.trans (hbx.mono hS.size), ?_⟩
    replace hS := hS.trans (hbx.mono hS.size)
    try simp only [Act.put, List.setIfInBounds_toArray, List.set_cons_zero, List.set_cons_succ]
    refine wpH_call 19 (oi := { dst := some 42, op := Op.call { callee := Callee.value (Operand.func 22), args := #[Operand.tmp 39, Operand.tmp 41], argTypes := #[35, 35] }, type := 4, pos := "law.go:29", after := #[{ on := 16, ground := Ground.data }, { on := 18, ground := Ground.data }, { on := 18, ground := Ground.chain }, { on := 15, ground := Ground.guard }], guard := some (15, false) }) rfl (by kernel_rfl) (by rfl) (sametexts_self _ _ (kidsF kid) _ (HS.keep hS) hS2.ss) ?_ ?_
    · (go_simp; try rfl)
    rintro e w' ⟨rfl, nn, rfl⟩
    refine ⟨_, rfl, below_drewN hS nn, ?_⟩
    replace hS := below_drewN hS nn
    try simp only [Act.put, List.setIfInBounds_toArray, List.set_cons_zero, List.set_cons_succ]
    (first | (refine wpH_skip 20 (oi := { dst := some 43, op := Op.unOp UnOp.not 4 (Operand.tmp 42), type := 4, pos := "law.go:29", after := #[{ on := 19, ground := Ground.data }, { on := 15, ground := Ground.guard }], guard := some (15, false) }) rfl (by kernel_rfl) (by kernel_rfl) (by kernel_rfl) (by rfl) hS (fun _ _ _ h => h) ?_) | (refine wpH_pure 20 ?_ (oi := { dst := some 43, op := Op.unOp UnOp.not 4 (Operand.tmp 42), type := 4, pos := "law.go:29", after := #[{ on := 19, ground := Ground.data }, { on := 15, ground := Ground.guard }], guard := some (15, false) }) rfl (by kernel_rfl) (by kernel_rfl) (by kernel_rfl) (by rfl) hS (fun _ _ _ h => h) ?_ ?_; rotate_left; focus (intro w; go_simp; try with_reducible rfl)))
    try simp only [Act.put, List.setIfInBounds_toArray, List.set_cons_zero, List.set_cons_succ]
    (refine wpH_pure 21 ?_ (oi := { dst := some 44, op := Op.pick (Operand.tmp 38) (Operand.const (Value.bool true)) (Operand.tmp 43), type := 4, pos := "law.go:29", after := #[{ on := 15, ground := Ground.data }, { on := 20, ground := Ground.data }], guard := none }) rfl (by kernel_rfl) (by kernel_rfl) (by kernel_rfl) (by rfl) hS (fun _ _ _ h => h) ?_ ?_; rotate_left; focus (intro w; go_simp; try with_reducible rfl))
    try simp only [Act.put, List.setIfInBounds_toArray, List.set_cons_zero, List.set_cons_succ]
    refine wpAnyH_done (by kernel_rfl) ?_ _
    have N5 := N4.keep hS
    have hK5 := hSK.keep hS
    have hb5 := hb4.trans (hS.mono hb4.size)
    have hs5 := hS.size
    go_wp2_with fail
    refine (spoil_any _ _ (kidsF kid) _ hK5).mono ?_
    rintro e w6 ⟨rfl, hm⟩
    have hown := hK5.own
    have N6 := N5.mod hm (by intro h; have := hown _ (by simpa using h); omega)
    have hb6 := Below.mod hb5 hm hb5.size (fun x hx => by have := hown x (by simpa using hx); omega)
    have hk6 := hk.keep hb6
    clear hS2 HS hSK hK5 hown N4 N5 hbx
    go_wp2_with fail
    refine wpH_start (by kernel_rfl) (fun hS => ?_)
    refine wpH_row row_node 0 (oi := { dst := some 47, op := Op.load 24 (Operand.tmp 1), type := 24, pos := "law.go:33", after := #[], guard := none }) rfl (by kernel_rfl) (by kernel_rfl) (by kernel_rfl) (by rfl) hS (vs := nd k p v kid) (fun _ _ _ h => h) (.tmp 1) rfl rfl (nd_len _ _ _ _) (fun w hb => N6.keep hb) ?_
    try simp only [Act.put, List.setIfInBounds_toArray, List.set_cons_zero, List.set_cons_succ]
    refine wpH_row row_node 2 (oi := { dst := some 49, op := Op.load 24 (Operand.tmp 1), type := 24, pos := "law.go:33", after := #[], guard := none }) rfl (by kernel_rfl) (by kernel_rfl) (by kernel_rfl) (by rfl) hS (vs := nd k p v kid) (fun _ _ _ h => h) (.tmp 1) rfl rfl (nd_len _ _ _ _) (fun w hb => N6.keep hb) ?_
    try simp only [Act.put, List.setIfInBounds_toArray, List.set_cons_zero, List.set_cons_succ]
    refine wpH_call 1 (oi := { dst := some 48, op := Op.call { callee := Callee.value (Operand.func 18), args := #[Operand.tmp 47], argTypes := #[24] }, type := 9, pos := "law.go:33", after := #[{ on := 0, ground := Ground.data }], guard := none }) rfl (by kernel_rfl) (by rfl) (ndigest_any k p v kid (by omega) _ (hk6.keep hS)) ?_ ?_
    · (go_simp; try rfl)
    rintro e w' ⟨rfl, hbx⟩
    refine ⟨_, rfl, hS.trans (hbx.mono hS.size), ?_⟩
    replace hS := hS.trans (hbx.mono hS.size)
    try simp only [Act.put, List.setIfInBounds_toArray, List.set_cons_zero, List.set_cons_succ]
    refine wpH_call 3 (oi := { dst := some 50, op := Op.call { callee := Callee.value (Operand.func 25), args := #[Operand.tmp 49], argTypes := #[24] }, type := 9, pos := "law.go:33", after := #[{ on := 2, ground := Ground.data }, { on := 1, ground := Ground.chain }], guard := none }) rfl (by kernel_rfl) (by rfl) (rdigest_any k p v kid (by omega) _) ?_ ?_
    · (go_simp; try rfl)
    rintro e w' ⟨rfl, hbx⟩
    refine ⟨_, rfl, hS.trans (hbx.mono hS.size), ?_⟩
    replace hS := hS.trans (hbx.mono hS.size)
    try simp only [Act.put, List.setIfInBounds_toArray, List.set_cons_zero, List.set_cons_succ]
    (refine wpH_pure 4 ?_ (oi := { dst := some 51, op := Op.binOp BinOp.eql 9 (Operand.tmp 48) (Operand.tmp 50) 9, type := 4, pos := "law.go:33", after := #[{ on := 1, ground := Ground.data }, { on := 3, ground := Ground.data }], guard := none }) rfl (by kernel_rfl) (by kernel_rfl) (by kernel_rfl) (by rfl) hS (fun _ _ _ h => h) ?_ ?_; rotate_left; focus (intro w; go_simp; try with_reducible rfl))
    try simp only [Act.put, List.setIfInBounds_toArray, List.set_cons_zero, List.set_cons_succ]
    (refine wpH_pure 5 ?_ (oi := { dst := some 52, op := Op.move (Operand.tmp 51), type := 4, pos := "law.go:33", after := #[{ on := 4, ground := Ground.data }, { on := 3, ground := Ground.chain }], guard := none }) rfl (by kernel_rfl) (by kernel_rfl) (by kernel_rfl) (by rfl) hS (fun _ _ _ h => h) ?_ ?_; rotate_left; focus (intro w; go_simp; try with_reducible rfl))
    try simp only [Act.put, List.setIfInBounds_toArray, List.set_cons_zero, List.set_cons_succ]
    (refine wpH_pure 6 ?_ (oi := { dst := some 53, op := Op.pick (Operand.tmp 52) (Operand.const (Value.bool true)) (Operand.const (Value.bool false)), type := 4, pos := "law.go:33", after := #[{ on := 5, ground := Ground.data }], guard := none }) rfl (by kernel_rfl) (by kernel_rfl) (by kernel_rfl) (by rfl) hS (fun _ _ _ h => h) ?_ ?_; rotate_left; focus (intro w; go_simp; try with_reducible rfl))
    try simp only [Act.put, List.setIfInBounds_toArray, List.set_cons_zero, List.set_cons_succ]
    (refine wpH_pure 7 ?_ (oi := { dst := some 54, op := Op.move (Operand.tmp 53), type := 4, pos := "law.go:33", after := #[{ on := 6, ground := Ground.data }, { on := 5, ground := Ground.chain }], guard := none }) rfl (by kernel_rfl) (by kernel_rfl) (by kernel_rfl) (by rfl) hS (fun _ _ _ h => h) ?_ ?_; rotate_left; focus (intro w; go_simp; try with_reducible rfl))
    try simp only [Act.put, List.setIfInBounds_toArray, List.set_cons_zero, List.set_cons_succ]
    refine wpH_call 8 (oi := { dst := some 55, op := Op.call { callee := Callee.value (Operand.func 13), args := #[], argTypes := #[] }, type := 4, pos := "law.go:33", after := #[{ on := 7, ground := Ground.chain }, { on := 7, ground := Ground.guard }], guard := some (7, true) }) rfl (by kernel_rfl) (by rfl) (works8_any _) ?_ ?_
    · (go_simp; try rfl)
    rintro e w' ⟨rfl, hbx⟩
    refine ⟨_, rfl, hS.trans (hbx.mono hS.size), ?_⟩
    replace hS := hS.trans (hbx.mono hS.size)
    try simp only [Act.put, List.setIfInBounds_toArray, List.set_cons_zero, List.set_cons_succ]
    (refine wpH_pure 9 ?_ (oi := { dst := some 56, op := Op.pick (Operand.tmp 54) (Operand.tmp 55) (Operand.const (Value.bool false)), type := 4, pos := "law.go:33", after := #[{ on := 7, ground := Ground.data }, { on := 8, ground := Ground.data }], guard := none }) rfl (by kernel_rfl) (by kernel_rfl) (by kernel_rfl) (by rfl) hS (fun _ _ _ h => h) ?_ ?_; rotate_left; focus (intro w; go_simp; try with_reducible rfl))
    try simp only [Act.put, List.setIfInBounds_toArray, List.set_cons_zero, List.set_cons_succ]
    (refine wpH_pure 10 ?_ (oi := { dst := some 2, op := Op.assign (Operand.tmp 56), type := 4, pos := "law.go:33", after := #[{ on := 9, ground := Ground.data }, { on := 8, ground := Ground.chain }, { on := 0, ground := Ground.phase }, { on := 1, ground := Ground.phase }, { on := 2, ground := Ground.phase }, { on := 3, ground := Ground.phase }, { on := 4, ground := Ground.phase }, { on := 5, ground := Ground.phase }, { on := 6, ground := Ground.phase }, { on := 7, ground := Ground.phase }, { on := 8, ground := Ground.phase }, { on := 9, ground := Ground.phase }], guard := none }) rfl (by kernel_rfl) (by kernel_rfl) (by kernel_rfl) (by rfl) hS (fun _ _ _ h => h) ?_ ?_; rotate_left; focus (intro w; go_simp; try with_reducible rfl))
    try simp only [Act.put, List.setIfInBounds_toArray, List.set_cons_zero, List.set_cons_succ]
    refine wpAnyH_done (by kernel_rfl) ?_ _
    go_wp2_with fail
    all_goals (go_ret; exact ⟨rfl, hb6.trans (hS.mono hb6.size)⟩)
  · go_wp2_with fail
    refine (works8_any _).mono ?_
    rintro e w2 ⟨rfl, hb⟩
    go_wp2_with fail
    all_goals (go_ret; exact ⟨rfl, hb1.trans (hb.mono hb1.size)⟩)

end Go.Proofs.YtmldonbmjgelnaaDoor
