/- HeadE. -/
import Derived.Test.YthgjdaomcpinaaaGreatDoorMp10
set_option linter.unnecessarySimpa false
set_option linter.unusedSimpArgs false
set_option linter.unusedVariables false
set_option maxRecDepth 100000
set_option maxHeartbeats 32000000
namespace Go.Proofs.YthgjdaomcpinaaaGreatDoor
open Go.RowKit Go.Shelf Pl
def encHR (h : Hd) : Bs × Int := if fineH h then (writH h, 0) else ([], 190)
theorem encHR_yes {h : Hd} (hf : fineH h = true) : encHR h = (writH h, 0) := by unfold encHR; rw [hf]; rfl
theorem encHR_no {h : Hd} (hf : fineH h = false) : encHR h = ([], 190) := by unfold encHR; rw [hf]; rfl
def pre3 (n1 n2 n3 : Bs) : Nat → Bs
 | 0 => []
 | 1 => n1
 | 2 => n1 ++ n2
 | _ => n1 ++ (n2 ++ n3)
theorem flat_take (K : List Bs) (i : Nat) (hi : i < K.length) : (K.take (i + 1)).flatten = (K.take i).flatten ++ K.getD i [] := by
 rw [List.take_add_one, List.getElem?_eq_getElem hi, List.getD_eq_getElem?_getD, List.getElem?_eq_getElem hi, List.flatten_append]
 simp
theorem hd_encode (a1 a2 a3 : Int) (lb : Bool) (pa st rc tx me ne : Bs) (K : List Bs) (sk : Value) (w : World) (hk : SS w sk K) :
  Calls Tryz.prog 47 #[.agg #[.int .i64 a1, .int .i64 a2, .int .i64 a3, .bool lb, .string ⟨List.toArray pa⟩, .string ⟨List.toArray st⟩, .string ⟨List.toArray rc⟩, .string ⟨List.toArray tx⟩, .string ⟨List.toArray me⟩, .string ⟨List.toArray ne⟩, sk]] w fun e w' => e = .returned (.tuple #[.string ⟨List.toArray ((encHR ⟨a1, a2, a3, lb, pa, st, rc, tx, me, ne, K⟩).1)⟩, .int .i64 ((encHR ⟨a1, a2, a3, lb, pa, st, rc, tx, me, ne, K⟩).2)]) ∧ Below w.heap.size w w' := by
 have hb0 : Below w.heap.size w (w.alloc (.cells #[.int .i64 a1, .int .i64 a2, .int .i64 a3, .bool lb, .string ⟨List.toArray pa⟩, .string ⟨List.toArray st⟩, .string ⟨List.toArray rc⟩, .string ⟨List.toArray tx⟩, .string ⟨List.toArray me⟩, .string ⟨List.toArray ne⟩, sk] 24)) := Below.allocS (Below.refl _ _) _
 have B0 : Blk (w.alloc (.cells #[.int .i64 a1, .int .i64 a2, .int .i64 a3, .bool lb, .string ⟨List.toArray pa⟩, .string ⟨List.toArray st⟩, .string ⟨List.toArray rc⟩, .string ⟨List.toArray tx⟩, .string ⟨List.toArray me⟩, .string ⟨List.toArray ne⟩, sk] 24)) w.heap.size #[.int .i64 a1, .int .i64 a2, .int .i64 a3, .bool lb, .string ⟨List.toArray pa⟩, .string ⟨List.toArray st⟩, .string ⟨List.toArray rc⟩, .string ⟨List.toArray tx⟩, .string ⟨List.toArray me⟩, .string ⟨List.toArray ne⟩, sk] := Blk.new _ _ _
 have q1 := hd_check a1 a2 a3 lb pa st rc tx me ne K sk _ (hk.keep hb0)
 obtain ⟨ka, kc, rfl⟩ := hk.form
 have HK := Lib.hid hk
 clear hk
 cases hf : fineH ⟨a1, a2, a3, lb, pa, st, rc, tx, me, ne, K⟩
 ·rw [encHR_no hf]
  rw [hf] at q1
  clear hf
  go_enter Tryz.func47, Tryz.ntmps47
  go_wp2_with fail
  refine q1.mono ?_
  rintro e w1 ⟨rfl, hb⟩
  have hb1 := hb0.trans (hb.mono hb0.size)
  go_wp2_with fail
  go_ret2
  exact ⟨rfl, hb1⟩
 ·rw [encHR_yes hf]
  rw [hf] at q1
  have p := fine_parts hf
  have hw : writH ⟨a1, a2, a3, lb, pa, st, rc, tx, me, ne, K⟩ = (num a1.toNat ++ num a2.toNat ++ num a3.toNat) ++ (flagB lb ++ text pa ++ text st ++ text rc ++ tx ++ me ++ ne) ++ K.flatten := by
   unfold writH
   simp only [List.append_assoc]
  have g1 := p.hn
  have g2 := p.en
  have g3 := p.vn
  have g4 := p.txs
  have g5 := p.members
  have g6 := p.next
  have g7 := p.state
  have g8 := p.receipts
  have g9 := p.parent
  have g10 := p.skl
  have g11 := linksF_len a1
  have HKL := Lib.hid p.sk
  simp only at g1 g2 g3 g4 g5 g6 g7 g8 g9 g10
  have HKN : Hid (K.length ≤ 20) := Lib.hid (by omega)
  have HW := Lib.hid hw
  have n1 := fun W => cNum_any a1.toNat (by omega) W
  have n2 := fun W => cNum_any a2.toNat (by omega) W
  have n3 := fun W => cNum_any a3.toNat (by omega) W
  rw [show ((a1.toNat : Nat) : Int) = a1 from by omega] at n1
  rw [show ((a2.toNat : Nat) : Int) = a2 from by omega] at n2
  rw [show ((a3.toNat : Nat) : Int) = a3 from by omega] at n3
  have l1 := num_len a1.toNat
  have l2 := num_len a2.toNat
  have l3 := num_len a3.toNat
  have c1 := fun W => cflag_any lb W
  have c2 := fun W => ctext_any pa (by omega) W
  have c3 := fun W => ctext_any st (by omega) W
  have c4 := fun W => ctext_any rc (by omega) W
  have m1 : (flagB lb).length = 1 := by cases lb <;> rfl
  have m2 := text_len pa
  have m3 := text_len st
  have m4 := text_len rc
  clear hf p hw g10 g11 g1 g2 g3
  generalize writH ⟨a1, a2, a3, lb, pa, st, rc, tx, me, ne, K⟩ = R at *
  generalize num a1.toNat = N1 at *
  generalize num a2.toNat = N2 at *
  generalize num a3.toNat = N3 at *
  generalize flagB lb = F1 at *
  generalize text pa = T1 at *
  generalize text st = T2 at *
  generalize text rc = T3 at *
  have HN : Hid (N1.length ≤ 9 ∧ N2.length ≤ 9 ∧ N3.length ≤ 9) := Lib.hid ⟨l1, l2, l3⟩
  have HT : Hid (F1.length = 1 ∧ T1.length ≤ 41 ∧ T2.length ≤ 41 ∧ T3.length ≤ 41 ∧ tx.length = 32 ∧ me.length = 32 ∧ ne.length = 32) := Lib.hid ⟨m1, by omega, by omega, by omega, g4, g5, g6⟩
  clear l1 l2 l3 m1 m2 m3 m4 g4 g5 g6 g7 g8 g9
  go_enter Tryz.func47, Tryz.ntmps47
  go_wp2_with fail
  refine q1.mono ?_
  rintro e w1 ⟨rfl, hb⟩
  have hb1 := hb0.trans (hb.mono hb0.size)
  have B1 := B0.keep hb
  clear q1 hb hb0 B0
  obtain ⟨b1, b2, b3⟩ := id B1
  go_wp2_with fail
  have A2 : Blk (w1.alloc (.cells #[.int .i64 a1, .int .i64 a2, .int .i64 a3] 3)) w1.heap.size #[.int .i64 a1, .int .i64 a2, .int .i64 a3] := Blk.new _ _ _
  have hb2 := Below.allocS hb1 (.cells #[.int .i64 a1, .int .i64 a2, .int .i64 a3] 3)
  have B2 := B1.alloc (.cells #[.int .i64 a1, .int .i64 a2, .int .i64 a3] 3)
  clear b1 b2 b3 B1
  go_loopw [5, 25] (fun s5 s25 wr => ∃ i : Nat, s25 = .int .i64 i ∧ i ≤ 3 ∧ s5 = .string ⟨List.toArray (pre3 N1 N2 N3 i)⟩ ∧ Blk wr w1.heap.size #[.int .i64 a1, .int .i64 a2, .int .i64 a3] ∧ Blk wr w.heap.size #[.int .i64 a1, .int .i64 a2, .int .i64 a3, .bool lb, .string ⟨List.toArray pa⟩, .string ⟨List.toArray st⟩, .string ⟨List.toArray rc⟩, .string ⟨List.toArray tx⟩, .string ⟨List.toArray me⟩, .string ⟨List.toArray ne⟩, .slice ka K.length kc] ∧ Below w.heap.size w wr) (fun _ s25 _ => 3 - (intOf s25).toNat)
  case atStart => exact ⟨0, rfl, by omega, rfl, A2, B2, hb2⟩
  case round =>
   clear A2 B2 hb2
   obtain ⟨i, rfl, hi, rfl, A, B, hb⟩ := hrel
   obtain ⟨wr, hnm⟩ := Below.name hb
   subst hnm
   obtain ⟨z1, z2, z3⟩ := HN.out
   obtain ⟨b1, b2, b3⟩ := id A
   have hbs := hb1.size
   rcases (show i = 0 ∨ i = 1 ∨ i = 2 ∨ i = 3 by omega) with rfl | rfl | rfl | rfl
   ·rw [show pre3 N1 N2 N3 0 = [] from rfl]
    go_wp2_with fail
    refine (n1 _).mono ?_
    rintro e w3 ⟨rfl, hb3⟩
    go_wp2_with fail
    refine ⟨?_, by simp [intOf]⟩
    (repeat apply Exists.intro)
    exact ⟨⟨1, rfl, by omega, rfl, A.keep hb3, B.keep hb3, hb.trans (hb3.mono hb.size)⟩, rfl⟩
   ·rw [show pre3 N1 N2 N3 1 = N1 from rfl]
    have k1 : ¬ 9223372036854775807 < N1.length + N2.length := by omega
    go_wp2_with fail
    refine (n2 _).mono ?_
    rintro e w3 ⟨rfl, hb3⟩
    go_wp2_with fail
    refine ⟨?_, by simp [intOf]⟩
    (repeat apply Exists.intro)
    exact ⟨⟨2, rfl, by omega, rfl, A.keep hb3, B.keep hb3, hb.trans (hb3.mono hb.size)⟩, rfl⟩
   ·rw [show pre3 N1 N2 N3 2 = N1 ++ N2 from rfl]
    have k1 : ¬ 9223372036854775807 < N1.length + N2.length + N3.length := by omega
    go_wp2_with fail
    refine (n3 _).mono ?_
    rintro e w3 ⟨rfl, hb3⟩
    go_wp2_with fail
    refine ⟨?_, by simp [intOf]⟩
    (repeat apply Exists.intro)
    exact ⟨⟨3, rfl, by omega, rfl, A.keep hb3, B.keep hb3, hb.trans (hb3.mono hb.size)⟩, rfl⟩
   ·rw [show pre3 N1 N2 N3 3 = N1 ++ (N2 ++ N3) from rfl]
    clear b1 b2 b3 A n1 n2 n3
    have HR : Hid (R = (N1 ++ (N2 ++ N3)) ++ (F1 ++ T1 ++ T2 ++ T3 ++ tx ++ me ++ ne) ++ K.flatten) := Lib.hid (by rw [HW.out, List.append_assoc N1 N2 N3])
    have hnl : (N1 ++ (N2 ++ N3)).length ≤ 27 := by simp; omega
    generalize N1 ++ (N2 ++ N3) = N at *
    go_wp2_with fail
    obtain ⟨t1, t2, t3, t4, t5, t6, t7⟩ := HT.out
    have k1 : ¬ 9223372036854775807 < F1.length + T1.length := by omega
    have k2 : ¬ 9223372036854775807 < F1.length + T1.length + T2.length := by omega
    have k3 : ¬ 9223372036854775807 < F1.length + T1.length + T2.length + T3.length := by omega
    have k4 : ¬ 9223372036854775807 < F1.length + T1.length + T2.length + T3.length + tx.length := by omega
    have k5 : ¬ 9223372036854775807 < F1.length + T1.length + T2.length + T3.length + tx.length + me.length := by omega
    have k6 : ¬ 9223372036854775807 < F1.length + T1.length + T2.length + T3.length + tx.length + me.length + ne.length := by omega
    have k7 : ¬ 9223372036854775807 < N.length + (F1.length + T1.length + T2.length + T3.length + tx.length + me.length + ne.length) := by omega
    have r3 : ¬ 9223372036854775807 < F1.length + (T1.length + (T2.length)) + T3.length := by omega
    have r4 : ¬ 9223372036854775807 < F1.length + (T1.length + (T2.length + (T3.length))) + tx.length := by omega
    have r5 : ¬ 9223372036854775807 < F1.length + (T1.length + (T2.length + (T3.length + (tx.length)))) + me.length := by omega
    have r6 : ¬ 9223372036854775807 < F1.length + (T1.length + (T2.length + (T3.length + (tx.length + (me.length))))) + ne.length := by omega
    have r7 : ¬ 9223372036854775807 < N.length + (F1.length + (T1.length + (T2.length + (T3.length + (tx.length + (me.length + (ne.length))))))) := by omega
    have hml : (N ++ (F1 ++ (T1 ++ (T2 ++ (T3 ++ (tx ++ (me ++ ne))))))).length ≤ 300 := by simp only [List.length_append]; omega
    clear t1 t2 t3 t4 t5 t6 t7
    refine wpH_start (by kernel_rfl) (fun hS => ?_)
    (refine hP 0 ?_ ⟨some 38, .move (.tmp 5), 9, "", #[], none⟩ hS ?_ ?_; rotate_left; focus (intro w; go_simp; try with_reducible rfl))
    try simp only [pna, pnb, pnc, pnd, pne]
    (refine hP 1 ?_ ⟨some 39, .fieldAddr 24 (.tmp 1) 3, 0, "", #[], none⟩ hS ?_ ?_; rotate_left; focus (intro w; go_simp; try with_reducible rfl))
    try simp only [pna, pnb, pnc, pnd, pne]
    refine wpH_load 2 (.bool lb) (oi := { dst := some 40, op := Op.load 4 (Operand.tmp 39), type := 4, pos := "header.go:63", after := #[{ on := 1, ground := Ground.data }], guard := none }) rfl (by kernel_rfl) (by kernel_rfl) (by kernel_rfl) (by rfl) hS (fun _ _ _ h => h) (fun w hb2 => (by have c := (B.keep hb2).cell 3; go_simp; try rfl)) ?_
    try simp only [pna, pnb, pnc, pnd, pne]
    (refine hP 4 ?_ ⟨some 42, .fieldAddr 24 (.tmp 1) 4, 0, "", #[], none⟩ hS ?_ ?_; rotate_left; focus (intro w; go_simp; try with_reducible rfl))
    try simp only [pna, pnb, pnc, pnd, pne]
    refine wpH_load 5 (.string ⟨List.toArray pa⟩) (oi := { dst := some 43, op := Op.load 9 (Operand.tmp 42), type := 9, pos := "header.go:63", after := #[{ on := 4, ground := Ground.data }], guard := none }) rfl (by kernel_rfl) (by kernel_rfl) (by kernel_rfl) (by rfl) hS (fun _ _ _ h => h) (fun w hb2 => (by have c := (B.keep hb2).cell 4; go_simp; try rfl)) ?_
    try simp only [pna, pnb, pnc, pnd, pne]
    (refine hP 8 ?_ ⟨some 46, .fieldAddr 24 (.tmp 1) 5, 0, "", #[], none⟩ hS ?_ ?_; rotate_left; focus (intro w; go_simp; try with_reducible rfl))
    try simp only [pna, pnb, pnc, pnd, pne]
    refine wpH_load 9 (.string ⟨List.toArray st⟩) (oi := { dst := some 47, op := Op.load 9 (Operand.tmp 46), type := 9, pos := "header.go:63", after := #[{ on := 8, ground := Ground.data }], guard := none }) rfl (by kernel_rfl) (by kernel_rfl) (by kernel_rfl) (by rfl) hS (fun _ _ _ h => h) (fun w hb2 => (by have c := (B.keep hb2).cell 5; go_simp; try rfl)) ?_
    try simp only [pna, pnb, pnc, pnd, pne]
    (refine hP 12 ?_ ⟨some 50, .fieldAddr 24 (.tmp 1) 6, 0, "", #[], none⟩ hS ?_ ?_; rotate_left; focus (intro w; go_simp; try with_reducible rfl))
    try simp only [pna, pnb, pnc, pnd, pne]
    refine wpH_load 13 (.string ⟨List.toArray rc⟩) (oi := { dst := some 51, op := Op.load 9 (Operand.tmp 50), type := 9, pos := "header.go:63", after := #[{ on := 12, ground := Ground.data }], guard := none }) rfl (by kernel_rfl) (by kernel_rfl) (by kernel_rfl) (by rfl) hS (fun _ _ _ h => h) (fun w hb2 => (by have c := (B.keep hb2).cell 6; go_simp; try rfl)) ?_
    try simp only [pna, pnb, pnc, pnd, pne]
    (refine hP 16 ?_ ⟨some 54, .fieldAddr 24 (.tmp 1) 7, 0, "", #[], none⟩ hS ?_ ?_; rotate_left; focus (intro w; go_simp; try with_reducible rfl))
    try simp only [pna, pnb, pnc, pnd, pne]
    refine wpH_load 17 (.string ⟨List.toArray tx⟩) (oi := { dst := some 55, op := Op.load 9 (Operand.tmp 54), type := 9, pos := "header.go:63", after := #[{ on := 16, ground := Ground.data }], guard := none }) rfl (by kernel_rfl) (by kernel_rfl) (by kernel_rfl) (by rfl) hS (fun _ _ _ h => h) (fun w hb2 => (by have c := (B.keep hb2).cell 7; go_simp; try rfl)) ?_
    try simp only [pna, pnb, pnc, pnd, pne]
    (refine hP 19 ?_ ⟨some 57, .fieldAddr 24 (.tmp 1) 8, 0, "", #[], none⟩ hS ?_ ?_; rotate_left; focus (intro w; go_simp; try with_reducible rfl))
    try simp only [pna, pnb, pnc, pnd, pne]
    refine wpH_load 20 (.string ⟨List.toArray me⟩) (oi := { dst := some 58, op := Op.load 9 (Operand.tmp 57), type := 9, pos := "header.go:63", after := #[{ on := 19, ground := Ground.data }], guard := none }) rfl (by kernel_rfl) (by kernel_rfl) (by kernel_rfl) (by rfl) hS (fun _ _ _ h => h) (fun w hb2 => (by have c := (B.keep hb2).cell 8; go_simp; try rfl)) ?_
    try simp only [pna, pnb, pnc, pnd, pne]
    (refine hP 22 ?_ ⟨some 60, .fieldAddr 24 (.tmp 1) 9, 0, "", #[], none⟩ hS ?_ ?_; rotate_left; focus (intro w; go_simp; try with_reducible rfl))
    try simp only [pna, pnb, pnc, pnd, pne]
    refine wpH_load 23 (.string ⟨List.toArray ne⟩) (oi := { dst := some 61, op := Op.load 9 (Operand.tmp 60), type := 9, pos := "header.go:63", after := #[{ on := 22, ground := Ground.data }], guard := none }) rfl (by kernel_rfl) (by kernel_rfl) (by kernel_rfl) (by rfl) hS (fun _ _ _ h => h) (fun w hb2 => (by have c := (B.keep hb2).cell 9; go_simp; try rfl)) ?_
    try simp only [pna, pnb, pnc, pnd, pne]
    refine wpH_call 3 (oi := { dst := some 41, op := Op.call { callee := Callee.value (Operand.func 97), args := #[Operand.tmp 40], argTypes := #[4] }, type := 9, pos := "header.go:63", after := #[{ on := 2, ground := Ground.data }], guard := none }) rfl (by kernel_rfl) (by rfl) (c1 _) ?_ ?_
    ·(go_simp; try rfl)
    rintro e w' ⟨rfl, hbx⟩
    refine ⟨_, rfl, hS.trans (hbx.mono hS.size), ?_⟩
    replace hS := hS.trans (hbx.mono hS.size)
    try simp only [pna, pnb, pnc, pnd, pne]
    refine wpH_call 6 (oi := { dst := some 44, op := Op.call { callee := Callee.value (Operand.func 50), args := #[Operand.tmp 43], argTypes := #[9] }, type := 9, pos := "header.go:63", after := #[{ on := 5, ground := Ground.data }, { on := 3, ground := Ground.chain }], guard := none }) rfl (by kernel_rfl) (by rfl) (c2 _) ?_ ?_
    ·(go_simp; try rfl)
    rintro e w' ⟨rfl, hbx⟩
    refine ⟨_, rfl, hS.trans (hbx.mono hS.size), ?_⟩
    replace hS := hS.trans (hbx.mono hS.size)
    try simp only [pna, pnb, pnc, pnd, pne]
    (refine hP 7 ?_ ⟨some 45, .binOp .add 9 (.tmp 41) (.tmp 44) 9, 9, "", #[], none⟩ hS ?_ ?_; rotate_left; focus (intro w; go_simp; try with_reducible rfl))
    try simp only [pna, pnb, pnc, pnd, pne]
    refine wpH_call 10 (oi := { dst := some 48, op := Op.call { callee := Callee.value (Operand.func 50), args := #[Operand.tmp 47], argTypes := #[9] }, type := 9, pos := "header.go:63", after := #[{ on := 9, ground := Ground.data }, { on := 6, ground := Ground.chain }], guard := none }) rfl (by kernel_rfl) (by rfl) (c3 _) ?_ ?_
    ·(go_simp; try rfl)
    rintro e w' ⟨rfl, hbx⟩
    refine ⟨_, rfl, hS.trans (hbx.mono hS.size), ?_⟩
    replace hS := hS.trans (hbx.mono hS.size)
    try simp only [pna, pnb, pnc, pnd, pne]
    (refine hP 11 ?_ ⟨some 49, .binOp .add 9 (.tmp 45) (.tmp 48) 9, 9, "", #[], none⟩ hS ?_ ?_; rotate_left; focus (intro w; go_simp; try with_reducible rfl))
    try simp only [pna, pnb, pnc, pnd, pne]
    refine wpH_call 14 (oi := { dst := some 52, op := Op.call { callee := Callee.value (Operand.func 50), args := #[Operand.tmp 51], argTypes := #[9] }, type := 9, pos := "header.go:63", after := #[{ on := 13, ground := Ground.data }, { on := 10, ground := Ground.chain }], guard := none }) rfl (by kernel_rfl) (by rfl) (c4 _) ?_ ?_
    ·(go_simp; try rfl)
    rintro e w' ⟨rfl, hbx⟩
    refine ⟨_, rfl, hS.trans (hbx.mono hS.size), ?_⟩
    replace hS := hS.trans (hbx.mono hS.size)
    try simp only [pna, pnb, pnc, pnd, pne]
    (refine hP 15 ?_ ⟨some 53, .binOp .add 9 (.tmp 49) (.tmp 52) 9, 9, "", #[], none⟩ hS ?_ ?_; rotate_left; focus (intro w; go_simp; try with_reducible rfl))
    try simp only [pna, pnb, pnc, pnd, pne]
    (refine hP 18 ?_ ⟨some 56, .binOp .add 9 (.tmp 53) (.tmp 55) 9, 9, "", #[], none⟩ hS ?_ ?_; rotate_left; focus (intro w; go_simp; try with_reducible rfl))
    try simp only [pna, pnb, pnc, pnd, pne]
    (refine hP 21 ?_ ⟨some 59, .binOp .add 9 (.tmp 56) (.tmp 58) 9, 9, "", #[], none⟩ hS ?_ ?_; rotate_left; focus (intro w; go_simp; try with_reducible rfl))
    try simp only [pna, pnb, pnc, pnd, pne]
    (refine hP 24 ?_ ⟨some 62, .binOp .add 9 (.tmp 59) (.tmp 61) 9, 9, "", #[], none⟩ hS ?_ ?_; rotate_left; focus (intro w; go_simp; try with_reducible rfl))
    try simp only [pna, pnb, pnc, pnd, pne]
    (refine hP 25 ?_ ⟨some 63, .binOp .add 9 (.tmp 38) (.tmp 62) 9, 9, "", #[], none⟩ hS ?_ ?_; rotate_left; focus (intro w; go_simp; try with_reducible rfl))
    try simp only [pna, pnb, pnc, pnd, pne]
    (refine hP 26 ?_ ⟨some 5, .assign (.tmp 63), 9, "", #[], none⟩ hS ?_ ?_; rotate_left; focus (intro w; go_simp; try with_reducible rfl))
    try simp only [pna, pnb, pnc, pnd, pne]
    refine wpAnyH_done (by kernel_rfl) ?_ _
    have HRM : Hid (R = (N ++ (F1 ++ (T1 ++ (T2 ++ (T3 ++ (tx ++ (me ++ ne))))))) ++ K.flatten) := Lib.hid (by rw [HR.out]; simp only [List.append_assoc])
    generalize N ++ (F1 ++ (T1 ++ (T2 ++ (T3 ++ (tx ++ (me ++ ne)))))) = M at *
    obtain ⟨b1, b2, b3⟩ := id (B.keep hS)
    have hbZ := hb.trans (hS.mono hb.size)
    clear k1 k2 k3 k4 k5 k6 k7 r3 r4 r5 r6 r7 c1 c2 c3 c4 hS hb B HR
    go_wp2_with fail
    go_loopw [5, 67] (fun s5 s67 wr => ∃ i : Nat, s67 = .int .i64 i ∧ i ≤ K.length ∧ s5 = .string ⟨List.toArray (M ++ (K.take i).flatten)⟩ ∧ Below w.heap.size w wr) (fun _ s67 _ => K.length - (intOf s67).toNat)
    case atStart => exact ⟨0, rfl, Nat.zero_le _, by simp, hbZ⟩
    case round =>
     clear b1 b2 b3 hbZ
     obtain ⟨i, rfl, hi, rfl, hb⟩ := hrel
     obtain ⟨wr, hnm⟩ := Below.name hb
     subst hnm
     by_cases hlt : i < K.length
     ·have HLT := Lib.hid hlt
      have hkn := HKN.out
      have i1 : decide ((i : Int) < (K.length : Int)) = true := by simp; omega
      have i0 : 0 ≤ (i : Int) ∧ (i : Int) < (K.length : Int) := by omega
      obtain ⟨g, off, e1, hg, x1⟩ := (HK.out.keep hb).at' i hlt
      subst e1
      have hx32 : (K.getD i []).length = 32 := HKL.out _ (by rw [List.getD_eq_getElem?_getD, List.getElem?_eq_getElem hlt]; exact List.getElem_mem _)
      have hfl := flat_len32 (K.take i) (fun y hy => HKL.out y (List.mem_of_mem_take hy))
      have hpl : (M ++ (K.take i).flatten).length ≤ 1000 := by
       have := HKN.out
       rw [List.length_append, hfl, List.length_take]; omega
      have HP : Hid ((M ++ (K.take i).flatten) ++ K.getD i [] = M ++ (K.take (i + 1)).flatten) := Lib.hid (by rw [flat_take K i hlt, List.append_assoc])
      clear hfl hlt
      generalize K.getD i [] = x at *
      generalize M ++ (K.take i).flatten = P at *
      have hcat : ¬ 9223372036854775807 < P.length + x.length := by omega
      go_wp2_with fail
      exact ⟨⟨i + 1, by go_num, by have := HLT.out; omega, by rw [← HP.out], hb⟩, by have := HLT.out; simp [intOf]; omega⟩
     ·have e : i = K.length := by omega
      subst e
      rw [List.take_length, ← HRM.out]
      clear hlt
      go_wp2_with fail
      go_ret2
      exact ⟨rfl, hb⟩
end Go.Proofs.YthgjdaomcpinaaaGreatDoor
