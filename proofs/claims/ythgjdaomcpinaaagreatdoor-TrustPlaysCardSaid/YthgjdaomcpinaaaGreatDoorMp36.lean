/- RefHD. -/
import Derived.Test.YthgjdaomcpinaaaGreatDoorMp35
set_option linter.unnecessarySimpa false
set_option linter.unusedSimpArgs false
set_option linter.unusedVariables false
set_option maxRecDepth 100000
set_option maxHeartbeats 32000000
namespace Go.Proofs.YthgjdaomcpinaaaGreatDoor
open Go.RowKit Go.Shelf Pl
theorem RL.belowB {w w' : World} {B p : Nat} {s : Bs} {c : Int} (h : RL w p s c) (hb : Below B w w') (hp : p < B) : RL w' p s c := ⟨Blk.belowB h.1 hb hp, h.2⟩
theorem rhdecode_any (s : Bs) (hs : s.length ≤ 1000000) (w : World) :
  Calls Tryz.prog 59 #[.string ⟨List.toArray s⟩] w fun e w' => ∃ v, e = .returned (.tuple #[v, .int .i64 ((decH s).2)]) ∧ HRow w' w.heap.size v (decH s).1 ∧ Below w.heap.size w w' := by
 rw [← rdecH_eq]
 generalize hR : rdecH s = R
 have HR := Lib.hid hR
 clear hR
 have Z0 : Blk (((w.alloc (.cells #[.int .i64 0, .int .i64 0, .int .i64 0, .bool false, .string ⟨List.toArray []⟩, .string ⟨List.toArray []⟩, .string ⟨List.toArray []⟩, .string ⟨List.toArray []⟩, .string ⟨List.toArray []⟩, .string ⟨List.toArray []⟩, .slice none 0 0] 24)).alloc (.cells #[.string ⟨List.toArray s⟩, .int .i64 0] 107)).alloc (.cells #[.int .i64 0, .int .i64 0, .int .i64 0, .bool false, .string ⟨List.toArray []⟩, .string ⟨List.toArray []⟩, .string ⟨List.toArray []⟩, .string ⟨List.toArray []⟩, .string ⟨List.toArray []⟩, .string ⟨List.toArray []⟩, .slice none 0 0] 24)) w.heap.size #[.int .i64 0, .int .i64 0, .int .i64 0, .bool false, .string ⟨List.toArray []⟩, .string ⟨List.toArray []⟩, .string ⟨List.toArray []⟩, .string ⟨List.toArray []⟩, .string ⟨List.toArray []⟩, .string ⟨List.toArray []⟩, .slice none 0 0] := ((Blk.new _ _ _).alloc _).alloc _
 have hb1 : Below w.heap.size w (((w.alloc (.cells #[.int .i64 0, .int .i64 0, .int .i64 0, .bool false, .string ⟨List.toArray []⟩, .string ⟨List.toArray []⟩, .string ⟨List.toArray []⟩, .string ⟨List.toArray []⟩, .string ⟨List.toArray []⟩, .string ⟨List.toArray []⟩, .slice none 0 0] 24)).alloc (.cells #[.string ⟨List.toArray s⟩, .int .i64 0] 107)).alloc (.cells #[.int .i64 0, .int .i64 0, .int .i64 0, .bool false, .string ⟨List.toArray []⟩, .string ⟨List.toArray []⟩, .string ⟨List.toArray []⟩, .string ⟨List.toArray []⟩, .string ⟨List.toArray []⟩, .string ⟨List.toArray []⟩, .slice none 0 0] 24)) := Below.allocS (Below.allocS (Below.allocS (Below.refl _ _) _) _) _
 have R0 : RL (((w.alloc (.cells #[.int .i64 0, .int .i64 0, .int .i64 0, .bool false, .string ⟨List.toArray []⟩, .string ⟨List.toArray []⟩, .string ⟨List.toArray []⟩, .string ⟨List.toArray []⟩, .string ⟨List.toArray []⟩, .string ⟨List.toArray []⟩, .slice none 0 0] 24)).alloc (.cells #[.string ⟨List.toArray s⟩, .int .i64 0] 107)).alloc (.cells #[.int .i64 0, .int .i64 0, .int .i64 0, .bool false, .string ⟨List.toArray []⟩, .string ⟨List.toArray []⟩, .string ⟨List.toArray []⟩, .string ⟨List.toArray []⟩, .string ⟨List.toArray []⟩, .string ⟨List.toArray []⟩, .slice none 0 0] 24)) (w.heap.size + 1) s 0 := RL.alloc ⟨Blk.new' (by simp), hs⟩ _
 have Q0 : Blk (((w.alloc (.cells #[.int .i64 0, .int .i64 0, .int .i64 0, .bool false, .string ⟨List.toArray []⟩, .string ⟨List.toArray []⟩, .string ⟨List.toArray []⟩, .string ⟨List.toArray []⟩, .string ⟨List.toArray []⟩, .string ⟨List.toArray []⟩, .slice none 0 0] 24)).alloc (.cells #[.string ⟨List.toArray s⟩, .int .i64 0] 107)).alloc (.cells #[.int .i64 0, .int .i64 0, .int .i64 0, .bool false, .string ⟨List.toArray []⟩, .string ⟨List.toArray []⟩, .string ⟨List.toArray []⟩, .string ⟨List.toArray []⟩, .string ⟨List.toArray []⟩, .string ⟨List.toArray []⟩, .slice none 0 0] 24)) (w.heap.size + 1 + 1) #[.int .i64 0, .int .i64 0, .int .i64 0, .bool false, .string ⟨List.toArray []⟩, .string ⟨List.toArray []⟩, .string ⟨List.toArray []⟩, .string ⟨List.toArray []⟩, .string ⟨List.toArray []⟩, .string ⟨List.toArray []⟩, .slice none 0 0] := Blk.new' (by simp)
 go_enter Tryz.func59, Tryz.ntmps59
 go_wp2_with fail
 generalize hq : w.heap.size + 1 + 1 = q at *
 generalize hp : w.heap.size + 1 = p at *
 have o1 : w.heap.size < p := by omega
 have o2 : p < q := by omega
 have HQL := Lib.hid Q0.lt
 clear hq hp
 have h1 := rlNum s 0 p _ R0
 generalize e1 : mNum s 0 = y at h1
 obtain ⟨n1, s1, c1⟩ := y
 have E1 := Lib.hid e1
 clear e1
 simp only at h1
 refine h1.mono ?_
 rintro e w2 ⟨rfl, R1, m1⟩
 have Q1 := Q0.mod m1 (by simp; omega)
 have Z1 := Z0.mod m1 (by simp; omega)
 have hb2 := Below.mod hb1 m1 hb1.size (by simp; omega)
 clear h1 m1 Q0 Z0 hb1 R0
 obtain ⟨b1, b2, b3⟩ := id Q1
 go_wp2_with fail
 clear b1 b2 b3
 replace R1 := R1.other (a := ⟨q, 0, none⟩) (by simp; omega) (.int .i64 ((n1 : Nat)))
 replace Z1 := Z1.other (a := ⟨q, 0, none⟩) (by simp; omega) (.int .i64 ((n1 : Nat)))
 replace hb2 := hb2.setCell (p := ⟨q, 0, none⟩) (by simp; omega) (.int .i64 ((n1 : Nat)))
 replace Q1 := blk_eq (d := #[.int .i64 ((n1 : Nat)), .int .i64 0, .int .i64 0, .bool false, .string ⟨List.toArray []⟩, .string ⟨List.toArray []⟩, .string ⟨List.toArray []⟩, .string ⟨List.toArray []⟩, .string ⟨List.toArray []⟩, .string ⟨List.toArray []⟩, .slice none 0 0]) (Q1.set 0 (.int .i64 ((n1 : Nat)))) (by simp)
 have h2 := rlNum s1 c1 p _ R1
 generalize e2 : mNum s1 c1 = y at h2
 obtain ⟨n2, s2, c2⟩ := y
 have E2 := Lib.hid e2
 clear e2
 simp only at h2
 refine h2.mono ?_
 rintro e w3 ⟨rfl, R2, m2⟩
 have Q2 := Q1.mod m2 (by simp; omega)
 have Z2 := Z1.mod m2 (by simp; omega)
 have hb3 := Below.mod hb2 m2 hb2.size (by simp; omega)
 clear h2 m2 Q1 Z1 hb2 R1
 obtain ⟨b1, b2, b3⟩ := id Q2
 go_wp2_with fail
 clear b1 b2 b3
 replace R2 := R2.other (a := ⟨q, 1, none⟩) (by simp; omega) (.int .i64 ((n2 : Nat)))
 replace Z2 := Z2.other (a := ⟨q, 1, none⟩) (by simp; omega) (.int .i64 ((n2 : Nat)))
 replace hb3 := hb3.setCell (p := ⟨q, 1, none⟩) (by simp; omega) (.int .i64 ((n2 : Nat)))
 replace Q2 := blk_eq (d := #[.int .i64 ((n1 : Nat)), .int .i64 ((n2 : Nat)), .int .i64 0, .bool false, .string ⟨List.toArray []⟩, .string ⟨List.toArray []⟩, .string ⟨List.toArray []⟩, .string ⟨List.toArray []⟩, .string ⟨List.toArray []⟩, .string ⟨List.toArray []⟩, .slice none 0 0]) (Q2.set 1 (.int .i64 ((n2 : Nat)))) (by simp)
 have h3 := rlNum s2 c2 p _ R2
 generalize e3 : mNum s2 c2 = y at h3
 obtain ⟨n3, s3, c3⟩ := y
 have E3 := Lib.hid e3
 clear e3
 simp only at h3
 refine h3.mono ?_
 rintro e w4 ⟨rfl, R3, m3⟩
 have Q3 := Q2.mod m3 (by simp; omega)
 have Z3 := Z2.mod m3 (by simp; omega)
 have hb4 := Below.mod hb3 m3 hb3.size (by simp; omega)
 clear h3 m3 Q2 Z2 hb3 R2
 obtain ⟨b1, b2, b3⟩ := id Q3
 go_wp2_with fail
 clear b1 b2 b3
 replace R3 := R3.other (a := ⟨q, 2, none⟩) (by simp; omega) (.int .i64 ((n3 : Nat)))
 replace Z3 := Z3.other (a := ⟨q, 2, none⟩) (by simp; omega) (.int .i64 ((n3 : Nat)))
 replace hb4 := hb4.setCell (p := ⟨q, 2, none⟩) (by simp; omega) (.int .i64 ((n3 : Nat)))
 replace Q3 := blk_eq (d := #[.int .i64 ((n1 : Nat)), .int .i64 ((n2 : Nat)), .int .i64 ((n3 : Nat)), .bool false, .string ⟨List.toArray []⟩, .string ⟨List.toArray []⟩, .string ⟨List.toArray []⟩, .string ⟨List.toArray []⟩, .string ⟨List.toArray []⟩, .string ⟨List.toArray []⟩, .slice none 0 0]) (Q3.set 2 (.int .i64 ((n3 : Nat)))) (by simp)
 have h4 := rlFlag s3 c3 p _ R3
 generalize e4 : mFlag s3 c3 = y at h4
 obtain ⟨lb, s4, c4⟩ := y
 have E4 := Lib.hid e4
 clear e4
 simp only at h4
 refine h4.mono ?_
 rintro e w5 ⟨rfl, R4, m4⟩
 have Q4 := Q3.mod m4 (by simp; omega)
 have Z4 := Z3.mod m4 (by simp; omega)
 have hb5 := Below.mod hb4 m4 hb4.size (by simp; omega)
 clear h4 m4 Q3 Z3 hb4 R3
 obtain ⟨b1, b2, b3⟩ := id Q4
 go_wp2_with fail
 clear b1 b2 b3
 replace R4 := R4.other (a := ⟨q, 3, none⟩) (by simp; omega) (.bool lb)
 replace Z4 := Z4.other (a := ⟨q, 3, none⟩) (by simp; omega) (.bool lb)
 replace hb5 := hb5.setCell (p := ⟨q, 3, none⟩) (by simp; omega) (.bool lb)
 replace Q4 := blk_eq (d := #[.int .i64 ((n1 : Nat)), .int .i64 ((n2 : Nat)), .int .i64 ((n3 : Nat)), .bool lb, .string ⟨List.toArray []⟩, .string ⟨List.toArray []⟩, .string ⟨List.toArray []⟩, .string ⟨List.toArray []⟩, .string ⟨List.toArray []⟩, .string ⟨List.toArray []⟩, .slice none 0 0]) (Q4.set 3 (.bool lb)) (by simp)
 have h5 := rlText s4 c4 32 p _ R4
 generalize e5 : mText s4 c4 32 = y at h5
 obtain ⟨pa, s5, c5⟩ := y
 have E5 := Lib.hid e5
 clear e5
 simp only at h5
 refine h5.mono ?_
 rintro e w6 ⟨rfl, R5, m5⟩
 have Q5 := Q4.mod m5 (by simp; omega)
 have Z5 := Z4.mod m5 (by simp; omega)
 have hb6 := Below.mod hb5 m5 hb5.size (by simp; omega)
 clear h5 m5 Q4 Z4 hb5 R4
 obtain ⟨b1, b2, b3⟩ := id Q5
 go_wp2_with fail
 clear b1 b2 b3
 replace R5 := R5.other (a := ⟨q, 4, none⟩) (by simp; omega) (.string ⟨List.toArray pa⟩)
 replace Z5 := Z5.other (a := ⟨q, 4, none⟩) (by simp; omega) (.string ⟨List.toArray pa⟩)
 replace hb6 := hb6.setCell (p := ⟨q, 4, none⟩) (by simp; omega) (.string ⟨List.toArray pa⟩)
 replace Q5 := blk_eq (d := #[.int .i64 ((n1 : Nat)), .int .i64 ((n2 : Nat)), .int .i64 ((n3 : Nat)), .bool lb, .string ⟨List.toArray pa⟩, .string ⟨List.toArray []⟩, .string ⟨List.toArray []⟩, .string ⟨List.toArray []⟩, .string ⟨List.toArray []⟩, .string ⟨List.toArray []⟩, .slice none 0 0]) (Q5.set 4 (.string ⟨List.toArray pa⟩)) (by simp)
 have h6 := rlText s5 c5 32 p _ R5
 generalize e6 : mText s5 c5 32 = y at h6
 obtain ⟨st, s6, c6⟩ := y
 have E6 := Lib.hid e6
 clear e6
 simp only at h6
 refine h6.mono ?_
 rintro e w7 ⟨rfl, R6, m6⟩
 have Q6 := Q5.mod m6 (by simp; omega)
 have Z6 := Z5.mod m6 (by simp; omega)
 have hb7 := Below.mod hb6 m6 hb6.size (by simp; omega)
 clear h6 m6 Q5 Z5 hb6 R5
 obtain ⟨b1, b2, b3⟩ := id Q6
 go_wp2_with fail
 clear b1 b2 b3
 replace R6 := R6.other (a := ⟨q, 5, none⟩) (by simp; omega) (.string ⟨List.toArray st⟩)
 replace Z6 := Z6.other (a := ⟨q, 5, none⟩) (by simp; omega) (.string ⟨List.toArray st⟩)
 replace hb7 := hb7.setCell (p := ⟨q, 5, none⟩) (by simp; omega) (.string ⟨List.toArray st⟩)
 replace Q6 := blk_eq (d := #[.int .i64 ((n1 : Nat)), .int .i64 ((n2 : Nat)), .int .i64 ((n3 : Nat)), .bool lb, .string ⟨List.toArray pa⟩, .string ⟨List.toArray st⟩, .string ⟨List.toArray []⟩, .string ⟨List.toArray []⟩, .string ⟨List.toArray []⟩, .string ⟨List.toArray []⟩, .slice none 0 0]) (Q6.set 5 (.string ⟨List.toArray st⟩)) (by simp)
 have h7 := rlText s6 c6 32 p _ R6
 generalize e7 : mText s6 c6 32 = y at h7
 obtain ⟨rc, s7, c7⟩ := y
 have E7 := Lib.hid e7
 clear e7
 simp only at h7
 refine h7.mono ?_
 rintro e w8 ⟨rfl, R7, m7⟩
 have Q7 := Q6.mod m7 (by simp; omega)
 have Z7 := Z6.mod m7 (by simp; omega)
 have hb8 := Below.mod hb7 m7 hb7.size (by simp; omega)
 clear h7 m7 Q6 Z6 hb7 R6
 obtain ⟨b1, b2, b3⟩ := id Q7
 go_wp2_with fail
 clear b1 b2 b3
 replace R7 := R7.other (a := ⟨q, 6, none⟩) (by simp; omega) (.string ⟨List.toArray rc⟩)
 replace Z7 := Z7.other (a := ⟨q, 6, none⟩) (by simp; omega) (.string ⟨List.toArray rc⟩)
 replace hb8 := hb8.setCell (p := ⟨q, 6, none⟩) (by simp; omega) (.string ⟨List.toArray rc⟩)
 replace Q7 := blk_eq (d := #[.int .i64 ((n1 : Nat)), .int .i64 ((n2 : Nat)), .int .i64 ((n3 : Nat)), .bool lb, .string ⟨List.toArray pa⟩, .string ⟨List.toArray st⟩, .string ⟨List.toArray rc⟩, .string ⟨List.toArray []⟩, .string ⟨List.toArray []⟩, .string ⟨List.toArray []⟩, .slice none 0 0]) (Q7.set 6 (.string ⟨List.toArray rc⟩)) (by simp)
 have h8 := rlBytes s7 c7 32 (by omega) p _ R7
 generalize e8 : mBytes s7 c7 32 = y at h8
 obtain ⟨tx, s8, c8⟩ := y
 have E8 := Lib.hid e8
 clear e8
 simp only at h8
 refine h8.mono ?_
 rintro e w9 ⟨rfl, R8, m8⟩
 have Q8 := Q7.mod m8 (by simp; omega)
 have Z8 := Z7.mod m8 (by simp; omega)
 have hb9 := Below.mod hb8 m8 hb8.size (by simp; omega)
 clear h8 m8 Q7 Z7 hb8 R7
 obtain ⟨b1, b2, b3⟩ := id Q8
 go_wp2_with fail
 clear b1 b2 b3
 replace R8 := R8.other (a := ⟨q, 7, none⟩) (by simp; omega) (.string ⟨List.toArray tx⟩)
 replace Z8 := Z8.other (a := ⟨q, 7, none⟩) (by simp; omega) (.string ⟨List.toArray tx⟩)
 replace hb9 := hb9.setCell (p := ⟨q, 7, none⟩) (by simp; omega) (.string ⟨List.toArray tx⟩)
 replace Q8 := blk_eq (d := #[.int .i64 ((n1 : Nat)), .int .i64 ((n2 : Nat)), .int .i64 ((n3 : Nat)), .bool lb, .string ⟨List.toArray pa⟩, .string ⟨List.toArray st⟩, .string ⟨List.toArray rc⟩, .string ⟨List.toArray tx⟩, .string ⟨List.toArray []⟩, .string ⟨List.toArray []⟩, .slice none 0 0]) (Q8.set 7 (.string ⟨List.toArray tx⟩)) (by simp)
 have h9 := rlBytes s8 c8 32 (by omega) p _ R8
 generalize e9 : mBytes s8 c8 32 = y at h9
 obtain ⟨me, s9, c9⟩ := y
 have E9 := Lib.hid e9
 clear e9
 simp only at h9
 refine h9.mono ?_
 rintro e w10 ⟨rfl, R9, m9⟩
 have Q9 := Q8.mod m9 (by simp; omega)
 have Z9 := Z8.mod m9 (by simp; omega)
 have hb10 := Below.mod hb9 m9 hb9.size (by simp; omega)
 clear h9 m9 Q8 Z8 hb9 R8
 obtain ⟨b1, b2, b3⟩ := id Q9
 go_wp2_with fail
 clear b1 b2 b3
 replace R9 := R9.other (a := ⟨q, 8, none⟩) (by simp; omega) (.string ⟨List.toArray me⟩)
 replace Z9 := Z9.other (a := ⟨q, 8, none⟩) (by simp; omega) (.string ⟨List.toArray me⟩)
 replace hb10 := hb10.setCell (p := ⟨q, 8, none⟩) (by simp; omega) (.string ⟨List.toArray me⟩)
 replace Q9 := blk_eq (d := #[.int .i64 ((n1 : Nat)), .int .i64 ((n2 : Nat)), .int .i64 ((n3 : Nat)), .bool lb, .string ⟨List.toArray pa⟩, .string ⟨List.toArray st⟩, .string ⟨List.toArray rc⟩, .string ⟨List.toArray tx⟩, .string ⟨List.toArray me⟩, .string ⟨List.toArray []⟩, .slice none 0 0]) (Q9.set 8 (.string ⟨List.toArray me⟩)) (by simp)
 have h10 := rlBytes s9 c9 32 (by omega) p _ R9
 generalize e10 : mBytes s9 c9 32 = y at h10
 obtain ⟨ne, s10, c10⟩ := y
 have E10 := Lib.hid e10
 clear e10
 simp only at h10
 refine h10.mono ?_
 rintro e w11 ⟨rfl, R10, m10⟩
 have Q10 := Q9.mod m10 (by simp; omega)
 have Z10 := Z9.mod m10 (by simp; omega)
 have hb11 := Below.mod hb10 m10 hb10.size (by simp; omega)
 clear h10 m10 Q9 Z9 hb10 R9
 obtain ⟨b1, b2, b3⟩ := id Q10
 replace R10 := R10.other (a := ⟨q, 9, none⟩) (by simp; omega) (.string ⟨List.toArray ne⟩)
 replace Z10 := Z10.other (a := ⟨q, 9, none⟩) (by simp; omega) (.string ⟨List.toArray ne⟩)
 replace hb11 := hb11.setCell (p := ⟨q, 9, none⟩) (by simp; omega) (.string ⟨List.toArray ne⟩)
 have Q10' := blk_eq (d := #[.int .i64 ((n1 : Nat)), .int .i64 ((n2 : Nat)), .int .i64 ((n3 : Nat)), .bool lb, .string ⟨List.toArray pa⟩, .string ⟨List.toArray st⟩, .string ⟨List.toArray rc⟩, .string ⟨List.toArray tx⟩, .string ⟨List.toArray me⟩, .string ⟨List.toArray ne⟩, .slice none 0 0]) (Q10.set 9 (.string ⟨List.toArray ne⟩)) (by simp)
 obtain ⟨j1, j2, j3⟩ := id Q10'
 go_wp2_with fail
 clear b1 b2 b3 j1 j2 j3 Q10
 have Q10 := Q10'
 refine (rlinks_any _ _).mono ?_
 rintro e w12 ⟨vl, rfl, hz, hbl⟩
 obtain ⟨za, zc, rfl⟩ := hz.form
 have R11 := R10.keep hbl
 have Z11 := Z10.keep hbl
 have Q11 := Q10.keep hbl
 have hb12 := hb11.trans (hbl.mono hb11.size)
 have HRD : Hid (R = if (mSk s10 c10 (linksF n1).length).2.2 = 0 ∧ fineH ⟨n1, n2, n3, lb, pa, st, rc, tx, me, ne, (mSk s10 c10 (linksF n1).length).1⟩ = true ∧ writH ⟨n1, n2, n3, lb, pa, st, rc, tx, me, ne, (mSk s10 c10 (linksF n1).length).1⟩ = s then (⟨n1, n2, n3, lb, pa, st, rc, tx, me, ne, (mSk s10 c10 (linksF n1).length).1⟩, 0) else (hdZ, 190)) := Lib.hid (by
  rw [← HR.out]
  unfold rdecH
  rw [rdH_at E1.out E2.out E3.out E4.out E5.out E6.out E7.out E8.out E9.out E10.out])
 have hn20 := linksF_len n1
 clear E1 E2 E3 E4 E5 E6 E7 E8 E9 E10 HR hz hbl R10 Z10 Q10 hb11
 generalize (linksF n1).length = n at *
 go_wp2_with fail
 go_loopw [7] (fun s7 wr => ∃ (i : Nat) (v : Value), s7 = .int .i64 i ∧ i ≤ n ∧ Blk wr q #[.int .i64 ((n1 : Nat)), .int .i64 ((n2 : Nat)), .int .i64 ((n3 : Nat)), .bool lb, .string ⟨List.toArray pa⟩, .string ⟨List.toArray st⟩, .string ⟨List.toArray rc⟩, .string ⟨List.toArray tx⟩, .string ⟨List.toArray me⟩, .string ⟨List.toArray ne⟩, v] ∧ SRow wr (q + 1) v (mSk s10 c10 i).1 ∧ RL wr p (mSk s10 c10 i).2.1 (mSk s10 c10 i).2.2 ∧ Blk wr w.heap.size #[.int .i64 0, .int .i64 0, .int .i64 0, .bool false, .string ⟨List.toArray []⟩, .string ⟨List.toArray []⟩, .string ⟨List.toArray []⟩, .string ⟨List.toArray []⟩, .string ⟨List.toArray []⟩, .string ⟨List.toArray []⟩, .slice none 0 0] ∧ Below w.heap.size w wr) (fun s7 _ => n - (intOf s7).toNat)
 case atStart => exact ⟨0, _, rfl, Nat.zero_le _, Q11, SRow.nil _ _, R11, Z11, hb12⟩
 case round =>
  clear Q11 R11 Z11 hb12
  obtain ⟨i, v, rfl, hi, Q, hr, Rr, Z, hb⟩ := hrel
  obtain ⟨wr, hnm⟩ := Below.name hb
  subst hnm
  by_cases hlt : i < n
  ·have HLT := Lib.hid hlt
   have i1 : decide ((i : Int) < (n : Int)) = true := by simp; omega
   have HXL := Lib.hid (mSk_len s10 c10 i)
   have HMS : Hid (mSk s10 c10 (i + 1) = ((mSk s10 c10 i).1 ++ [(mBytes (mSk s10 c10 i).2.1 (mSk s10 c10 i).2.2 32).1], (mBytes (mSk s10 c10 i).2.1 (mSk s10 c10 i).2.2 32).2.1, (mBytes (mSk s10 c10 i).2.1 (mSk s10 c10 i).2.2 32).2.2)) := Lib.hid rfl
   generalize mSk s10 c10 i = x at *
   obtain ⟨X, sx, cx⟩ := x
   simp only at hr Rr
   have hby := fun W (h : RL W p sx cx) => rlBytes sx cx 32 (by omega) p W h
   have HMS : Hid (mSk s10 c10 (i + 1) = (X ++ [(mBytes sx cx 32).1], (mBytes sx cx 32).2.1, (mBytes sx cx 32).2.2)) := HMS
   generalize mBytes sx cx 32 = y at *
   obtain ⟨b, sy, cy⟩ := y
   simp only at hby
   obtain ⟨va, vc, rfl⟩ := hr.form
   have hlq := Q.lt
   clear hlt
   go_wp2_with fail
   refine wpH_startB (p) (by kernel_rfl) (fun hS => ?_)
   have K0 := Q.drew
   obtain ⟨k1, k2, k3⟩ := id K0
   have hr0 := hr.drew
   (refine hP 0 ?_ ⟨some 50, .fieldAddr 24 (.tmp 5) 10, 0, "", #[], none⟩ hS ?_ ?_; rotate_left; focus (intro w; go_simp; try with_reducible rfl))
   try simp only [pna, pnb, pnc, pnd, pne]
   (refine hP 2 ?_ ⟨some 52, .move (.tmp 4), 105, "", #[], none⟩ hS ?_ ?_; rotate_left; focus (intro w; go_simp; try with_reducible rfl))
   try simp only [pna, pnb, pnc, pnd, pne]
   refine wpAnyH_all (rs := [1, 3]) (by kernel_rfl) (by simp) (fun jj hjj => ?_)
   simp only [List.mem_cons, List.not_mem_nil, or_false] at hjj
   rcases hjj with rfl | rfl
   refine wpO_op (oi := { dst := some 51, op := Op.load 22 (Operand.tmp 50), type := 22, pos := "ref.go:83", after := #[{ on := 0, ground := Ground.data }], guard := none }) rfl (by rfl) ?_
   refine wp_loads (.slice va X.length vc) (by go_simp; try rfl) ?_
   refine ⟨hS, ?_⟩
   try simp only [pna, pnb, pnc, pnd, pne]
   refine wpH_call 3 (oi := { dst := some 53, op := Op.call { callee := Callee.value (Operand.func 113), args := #[Operand.tmp 52, Operand.const (Value.int IntKind.i64 32)], argTypes := #[105, 3] }, type := 9, pos := "ref.go:83", after := #[{ on := 2, ground := Ground.data }], guard := none }) rfl (by kernel_rfl) (by rfl) (hby _ Rr.drew) ?_ ?_
   ·(go_simp; try rfl)
   rintro e w' ⟨rfl, hR2, hm2⟩
   refine ⟨_, rfl, Below.mod hS hm2 (by have := hS.size; omega) (by simp), ?_⟩
   replace hS := Below.mod hS hm2 (by have := hS.size; omega) (by simp)
   have K2 := K0.mod hm2 (by simp; omega)
   obtain ⟨y1, y2, y3⟩ := id K2
   have hr2 := hr0.mod hm2 (by omega)
   try simp only [pna, pnb, pnc, pnd, pne]
   refine wpH_op 4 (oi := { dst := some 54, op := Op.buildSlice 22 1 #[(0, Operand.tmp 53)], type := 22, pos := "ref.go:83", after := #[{ on := 3, ground := Ground.data }], guard := none }) rfl (by kernel_rfl) (by rfl) ?_
   refine wp_newK 9 #[.string ⟨List.toArray b⟩] (fun k => .slice (some ⟨k, 0, none⟩) 1 1) (fun w => by go_simp; try rfl) (fun k48 W6 hk48 hh48 hlt48 hbk48 => ?_)
   refine hold_and (hS.trans (hbk48.mono (by have := hS.size; omega))) (fun hS => ?_)
   have K3 := K2.keep hbk48
   obtain ⟨x1, x2, x3⟩ := id K3
   have hr3 := hr2.keep hbk48
   have hR3 := hR2.keep hbk48
   try simp only [pna, pnb, pnc, pnd, pne]
   refine wpH_op 5 (oi := { dst := some 55, op := Op.call { callee := Callee.builtin Builtin.append, args := #[Operand.tmp 51, Operand.tmp 54], argTypes := #[22, 22] }, type := 22, pos := "ref.go:83", after := #[{ on := 1, ground := Ground.data }, { on := 4, ground := Ground.data }, { on := 3, ground := Ground.chain }], guard := none }) rfl (by kernel_rfl) (by rfl) ?_
   refine wp_appS (.tmp 51) (.tmp 54) rfl (q + 1) _ X rfl hr3 k48 0 1 1 [b] rfl rfl (ssrc_one hh48) (by have : X.length = i := HXL.out; omega) (by have := K3.lt; omega) ?_
   rintro v8 w8 hS8 hb8
   obtain ⟨va8, vc8, rfl⟩ : ∃ a c, v8 = .slice a (X.length + 1) c := by have := hS8.form; rwa [List.length_append] at this
   refine hold_and (hS.trans (hb8.mono (by omega))) (fun hS => ?_)
   have K8 := K3.belowB hb8 (by omega)
   have hR8 := hR3.belowB hb8 (by omega)
   obtain ⟨z1, z2, z3⟩ := id K8
   try simp only [pna, pnb, pnc, pnd, pne]
   (refine hP 6 ?_ ⟨some 56, .fieldAddr 24 (.tmp 5) 10, 0, "", #[], none⟩ hS ?_ ?_; rotate_left; focus (intro w; go_simp; try with_reducible rfl))
   try simp only [pna, pnb, pnc, pnd, pne]
   refine wpH_op 7 (oi := { dst := none, op := Op.store 22 (Operand.tmp 56) (Operand.tmp 55), type := 0, pos := "ref.go:83", after := #[{ on := 6, ground := Ground.data }, { on := 5, ground := Ground.data }, { on := 5, ground := Ground.chain }, { on := 0, ground := Ground.phase }, { on := 1, ground := Ground.phase }, { on := 2, ground := Ground.phase }, { on := 3, ground := Ground.phase }, { on := 4, ground := Ground.phase }, { on := 5, ground := Ground.phase }], guard := none }) rfl (by kernel_rfl) (by rfl) ?_
   unfold Oper.wp; go_simp
   refine hold_and (Below.setCell (p := ⟨q, 10, none⟩) hS (by simp; omega) _) (fun hS => ?_)
   try simp only [pna, pnb, pnc, pnd, pne]
   refine wpAnyH_done (by kernel_rfl) ?_ _
   rotate_left
   refine wpO_call (oi := { dst := some 53, op := Op.call { callee := Callee.value (Operand.func 113), args := #[Operand.tmp 52, Operand.const (Value.int IntKind.i64 32)], argTypes := #[105, 3] }, type := 9, pos := "ref.go:83", after := #[{ on := 2, ground := Ground.data }], guard := none }) rfl (by rfl) (hby _ Rr.drew) ?_ ?_
   ·(go_simp; try rfl)
   rintro e w' ⟨rfl, hR2, hm2⟩
   refine ⟨_, rfl, Below.mod hS hm2 (by have := hS.size; omega) (by simp), ?_⟩
   replace hS := Below.mod hS hm2 (by have := hS.size; omega) (by simp)
   have K2 := K0.mod hm2 (by simp; omega)
   obtain ⟨y1, y2, y3⟩ := id K2
   have hr2 := hr0.mod hm2 (by omega)
   try simp only [pna, pnb, pnc, pnd, pne]
   refine wpAnyH_all (rs := [1, 4]) (by kernel_rfl) (by simp) (fun jj hjj => ?_)
   simp only [List.mem_cons, List.not_mem_nil, or_false] at hjj
   rcases hjj with rfl | rfl
   refine wpO_op (oi := { dst := some 51, op := Op.load 22 (Operand.tmp 50), type := 22, pos := "ref.go:83", after := #[{ on := 0, ground := Ground.data }], guard := none }) rfl (by rfl) ?_
   refine wp_loads (.slice va X.length vc) (by go_simp; try rfl) ?_
   refine ⟨hS, ?_⟩
   try simp only [pna, pnb, pnc, pnd, pne]
   refine wpH_op 4 (oi := { dst := some 54, op := Op.buildSlice 22 1 #[(0, Operand.tmp 53)], type := 22, pos := "ref.go:83", after := #[{ on := 3, ground := Ground.data }], guard := none }) rfl (by kernel_rfl) (by rfl) ?_
   refine wp_newK 9 #[.string ⟨List.toArray b⟩] (fun k => .slice (some ⟨k, 0, none⟩) 1 1) (fun w => by go_simp; try rfl) (fun k48 W6 hk48 hh48 hlt48 hbk48 => ?_)
   refine hold_and (hS.trans (hbk48.mono (by have := hS.size; omega))) (fun hS => ?_)
   have K3 := K2.keep hbk48
   obtain ⟨x1, x2, x3⟩ := id K3
   have hr3 := hr2.keep hbk48
   have hR3 := hR2.keep hbk48
   try simp only [pna, pnb, pnc, pnd, pne]
   refine wpH_op 5 (oi := { dst := some 55, op := Op.call { callee := Callee.builtin Builtin.append, args := #[Operand.tmp 51, Operand.tmp 54], argTypes := #[22, 22] }, type := 22, pos := "ref.go:83", after := #[{ on := 1, ground := Ground.data }, { on := 4, ground := Ground.data }, { on := 3, ground := Ground.chain }], guard := none }) rfl (by kernel_rfl) (by rfl) ?_
   refine wp_appS (.tmp 51) (.tmp 54) rfl (q + 1) _ X rfl hr3 k48 0 1 1 [b] rfl rfl (ssrc_one hh48) (by have : X.length = i := HXL.out; omega) (by have := K3.lt; omega) ?_
   rintro v8 w8 hS8 hb8
   obtain ⟨va8, vc8, rfl⟩ : ∃ a c, v8 = .slice a (X.length + 1) c := by have := hS8.form; rwa [List.length_append] at this
   refine hold_and (hS.trans (hb8.mono (by omega))) (fun hS => ?_)
   have K8 := K3.belowB hb8 (by omega)
   have hR8 := hR3.belowB hb8 (by omega)
   obtain ⟨z1, z2, z3⟩ := id K8
   try simp only [pna, pnb, pnc, pnd, pne]
   (refine hP 6 ?_ ⟨some 56, .fieldAddr 24 (.tmp 5) 10, 0, "", #[], none⟩ hS ?_ ?_; rotate_left; focus (intro w; go_simp; try with_reducible rfl))
   try simp only [pna, pnb, pnc, pnd, pne]
   refine wpH_op 7 (oi := { dst := none, op := Op.store 22 (Operand.tmp 56) (Operand.tmp 55), type := 0, pos := "ref.go:83", after := #[{ on := 6, ground := Ground.data }, { on := 5, ground := Ground.data }, { on := 5, ground := Ground.chain }, { on := 0, ground := Ground.phase }, { on := 1, ground := Ground.phase }, { on := 2, ground := Ground.phase }, { on := 3, ground := Ground.phase }, { on := 4, ground := Ground.phase }, { on := 5, ground := Ground.phase }], guard := none }) rfl (by kernel_rfl) (by rfl) ?_
   unfold Oper.wp; go_simp
   refine hold_and (Below.setCell (p := ⟨q, 10, none⟩) hS (by simp; omega) _) (fun hS => ?_)
   try simp only [pna, pnb, pnc, pnd, pne]
   refine wpAnyH_done (by kernel_rfl) ?_ _
   rotate_left
   refine wpO_op (oi := { dst := some 54, op := Op.buildSlice 22 1 #[(0, Operand.tmp 53)], type := 22, pos := "ref.go:83", after := #[{ on := 3, ground := Ground.data }], guard := none }) rfl (by rfl) ?_
   refine wp_newK 9 #[.string ⟨List.toArray b⟩] (fun k => .slice (some ⟨k, 0, none⟩) 1 1) (fun w => by go_simp; try rfl) (fun k48 W6 hk48 hh48 hlt48 hbk48 => ?_)
   refine hold_and (hS.trans (hbk48.mono (by have := hS.size; omega))) (fun hS => ?_)
   have K3 := K2.keep hbk48
   obtain ⟨x1, x2, x3⟩ := id K3
   have hr3 := hr2.keep hbk48
   have hR3 := hR2.keep hbk48
   try simp only [pna, pnb, pnc, pnd, pne]
   refine wpH_op 1 (oi := { dst := some 51, op := Op.load 22 (Operand.tmp 50), type := 22, pos := "ref.go:83", after := #[{ on := 0, ground := Ground.data }], guard := none }) rfl (by kernel_rfl) (by rfl) ?_
   refine wp_loads (.slice va X.length vc) (by go_simp; try rfl) ?_
   refine ⟨hS, ?_⟩
   try simp only [pna, pnb, pnc, pnd, pne]
   refine wpH_op 5 (oi := { dst := some 55, op := Op.call { callee := Callee.builtin Builtin.append, args := #[Operand.tmp 51, Operand.tmp 54], argTypes := #[22, 22] }, type := 22, pos := "ref.go:83", after := #[{ on := 1, ground := Ground.data }, { on := 4, ground := Ground.data }, { on := 3, ground := Ground.chain }], guard := none }) rfl (by kernel_rfl) (by rfl) ?_
   refine wp_appS (.tmp 51) (.tmp 54) rfl (q + 1) _ X rfl hr3 k48 0 1 1 [b] rfl rfl (ssrc_one hh48) (by have : X.length = i := HXL.out; omega) (by have := K3.lt; omega) ?_
   rintro v8 w8 hS8 hb8
   obtain ⟨va8, vc8, rfl⟩ : ∃ a c, v8 = .slice a (X.length + 1) c := by have := hS8.form; rwa [List.length_append] at this
   refine hold_and (hS.trans (hb8.mono (by omega))) (fun hS => ?_)
   have K8 := K3.belowB hb8 (by omega)
   have hR8 := hR3.belowB hb8 (by omega)
   obtain ⟨z1, z2, z3⟩ := id K8
   try simp only [pna, pnb, pnc, pnd, pne]
   (refine hP 6 ?_ ⟨some 56, .fieldAddr 24 (.tmp 5) 10, 0, "", #[], none⟩ hS ?_ ?_; rotate_left; focus (intro w; go_simp; try with_reducible rfl))
   try simp only [pna, pnb, pnc, pnd, pne]
   refine wpH_op 7 (oi := { dst := none, op := Op.store 22 (Operand.tmp 56) (Operand.tmp 55), type := 0, pos := "ref.go:83", after := #[{ on := 6, ground := Ground.data }, { on := 5, ground := Ground.data }, { on := 5, ground := Ground.chain }, { on := 0, ground := Ground.phase }, { on := 1, ground := Ground.phase }, { on := 2, ground := Ground.phase }, { on := 3, ground := Ground.phase }, { on := 4, ground := Ground.phase }, { on := 5, ground := Ground.phase }], guard := none }) rfl (by kernel_rfl) (by rfl) ?_
   unfold Oper.wp; go_simp
   refine hold_and (Below.setCell (p := ⟨q, 10, none⟩) hS (by simp; omega) _) (fun hS => ?_)
   try simp only [pna, pnb, pnc, pnd, pne]
   refine wpAnyH_done (by kernel_rfl) ?_ _
   rotate_left
   rotate_left
   all_goals
    have hR9 := hR8.other (a := ⟨q, 10, none⟩) (by simp; omega) (.slice va8 (X.length + 1) vc8)
    have K9 := K8.set 10 (.slice va8 (X.length + 1) vc8)
    have hS9 : SRow _ (q + 1) (.slice va8 (X.length + 1) vc8) (X ++ [b]) := hS8.mod (p := q) ((Mod.refl [q] _).setCell (p := ⟨q, 10, none⟩) (.inl (by simp)) (.slice va8 (X.length + 1) vc8)) (by omega)
    have HR9 := Lib.hid hR9
    have HK9 := Lib.hid (blk_eq (d := #[.int .i64 ((n1 : Nat)), .int .i64 ((n2 : Nat)), .int .i64 ((n3 : Nat)), .bool lb, .string ⟨List.toArray pa⟩, .string ⟨List.toArray st⟩, .string ⟨List.toArray rc⟩, .string ⟨List.toArray tx⟩, .string ⟨List.toArray me⟩, .string ⟨List.toArray ne⟩, .slice va8 (X.length + 1) vc8]) K9 (by simp))
    have HS9 := Lib.hid hS9
    have HZ9 := Lib.hid (Z.belowB hS o1)
    have HB9 := Lib.hid (hb.trans (hS.mono (by omega)))
    clear z1 z2 z3 K8 hR8 hS8 hb8 hR9 K9 hS9 hS Z Q Rr hb hr hby
    clear k1 k2 k3 y1 y2 y3 x1 x2 x3 K0 K2 K3 hr0 hr2 hr3 hR2 hR3
    go_wp2_with fail
    refine ⟨⟨i + 1, _, by go_num, by have := HLT.out; omega, HK9.out, ?_, ?_, HZ9.out, HB9.out⟩, by have := HLT.out; simp [intOf]; omega⟩
    ·rw [HMS.out]; exact HS9.out
    ·rw [HMS.out]; exact HR9.out
  ·have e : i = n := by omega
   subst e
   have i1 : decide ((i : Int) < (i : Int)) = false := by simp
   clear hlt
   generalize mSk s10 c10 i = x at *
   obtain ⟨X, sx, cx⟩ := x
   simp only at hr Rr
   have HRD : Hid (R = if cx = 0 ∧ fineH ⟨n1, n2, n3, lb, pa, st, rc, tx, me, ne, X⟩ = true ∧ writH ⟨n1, n2, n3, lb, pa, st, rc, tx, me, ne, X⟩ = s then (⟨n1, n2, n3, lb, pa, st, rc, tx, me, ne, X⟩, 0) else (hdZ, 190)) := HRD
   obtain ⟨va, vc, rfl⟩ := hr.form
   have RB := Rr.blk
   obtain ⟨b1, b2, b3⟩ := id RB
   have Q13 : Blk wr q (List.toArray [.int .i64 ((n1 : Nat)), .int .i64 ((n2 : Nat)), .int .i64 ((n3 : Nat)), .bool lb, .string ⟨List.toArray pa⟩, .string ⟨List.toArray st⟩, .string ⟨List.toArray rc⟩, .string ⟨List.toArray tx⟩, .string ⟨List.toArray me⟩, .string ⟨List.toArray ne⟩, .slice va X.length vc]) := Q
   have Z13 : Blk wr w.heap.size (List.toArray [.int .i64 0, .int .i64 0, .int .i64 0, .bool false, .string ⟨List.toArray []⟩, .string ⟨List.toArray []⟩, .string ⟨List.toArray []⟩, .string ⟨List.toArray []⟩, .string ⟨List.toArray []⟩, .string ⟨List.toArray []⟩, .slice none 0 0]) := Z
   have qf := fun (W : World) (h : SS W (.slice va X.length vc) X) => rhfine_any n1 n2 n3 lb pa st rc tx me ne X _ W h
   simp only [fineHR_eq] at qf
   have qw := fun (W : World) (h : SS W (.slice va X.length vc) X) => rhwrit_any n1 n2 n3 lb pa st rc tx me ne X _ W h
   have HWW := Lib.hid qw
   clear RB Q Z Rr qw
   by_cases h0 : cx = 0
   ·subst h0
    have hck := qf wr hr.ss
    cases hf : fineH ⟨n1, n2, n3, lb, pa, st, rc, tx, me, ne, X⟩
    ·rw [hf] at hck
     have HRE : Hid (R = (hdZ, 190)) := Lib.hid (by rw [HRD.out, if_neg (fun h => by rw [hf] at h; exact absurd h.2.1 (by decide))])
     clear hf HRD HWW qf
     go_wp2_with (first | (refine wpList_rowLoadG row_head ?hw (.tmp 5) rfl rfl (vs := [.int .i64 ((n1 : Nat)), .int .i64 ((n2 : Nat)), .int .i64 ((n3 : Nat)), .bool lb, .string ⟨List.toArray pa⟩, .string ⟨List.toArray st⟩, .string ⟨List.toArray rc⟩, .string ⟨List.toArray tx⟩, .string ⟨List.toArray me⟩, .string ⟨List.toArray ne⟩, .slice va X.length vc]) rfl Q13 ?_; (case hw => rfl)))
     refine hck.mono ?_
     rintro e w14 ⟨rfl, hbx⟩
     have Z14 := Z13.keep hbx
     have hb14 := hb.trans (hbx.mono hb.size)
     clear hck hbx hb Z13 Q13 hr b1 b2 b3
     go_wp2_with (first | (refine wpList_rowStore row_head rfl rfl (.tmp 2) (.tmp 73) rfl rfl rfl (vs := [.int .i64 0, .int .i64 0, .int .i64 0, .bool false, .string ⟨List.toArray []⟩, .string ⟨List.toArray []⟩, .string ⟨List.toArray []⟩, .string ⟨List.toArray []⟩, .string ⟨List.toArray []⟩, .string ⟨List.toArray []⟩, .slice none 0 0]) rfl (by simp [Value.oneCell']) (us := [.int .i64 0, .int .i64 0, .int .i64 0, .bool false, .string ⟨List.toArray []⟩, .string ⟨List.toArray []⟩, .string ⟨List.toArray []⟩, .string ⟨List.toArray []⟩, .string ⟨List.toArray []⟩, .string ⟨List.toArray []⟩, .slice none 0 0]) rfl Z14 ?_; intro w16 N16 m16))
     have hld := row_loadVar row_head w16 (vs := [.int .i64 0, .int .i64 0, .int .i64 0, .bool false, .string ⟨List.toArray []⟩, .string ⟨List.toArray []⟩, .string ⟨List.toArray []⟩, .string ⟨List.toArray []⟩, .string ⟨List.toArray []⟩, .string ⟨List.toArray []⟩, .slice none 0 0]) rfl N16
     refine bodyPost_ret (results_cell_tmp2 rfl _ _ _ _ rfl hld) rfl ?_
     rw [HRE.out]
     exact ⟨_, rfl, ⟨_, rfl, SRow.nil _ _⟩, Below.mod hb14 m16 hb14.size (by simp)⟩
    ·rw [hf] at hck
     have qw := fun (W : World) (h : SS W (.slice va X.length vc) X) => HWW.out W h hf
     by_cases hws : writH ⟨n1, n2, n3, lb, pa, st, rc, tx, me, ne, X⟩ = s
     ·have HRE : Hid (R = (⟨n1, n2, n3, lb, pa, st, rc, tx, me, ne, X⟩, 0)) := Lib.hid (by rw [HRD.out, if_pos ⟨rfl, hf, hws⟩])
      rw [hws] at qw
      clear hf HRD HWW qf hws
      go_wp2_with (first | (refine wpList_rowLoadG row_head ?hw (.tmp 5) rfl rfl (vs := [.int .i64 ((n1 : Nat)), .int .i64 ((n2 : Nat)), .int .i64 ((n3 : Nat)), .bool lb, .string ⟨List.toArray pa⟩, .string ⟨List.toArray st⟩, .string ⟨List.toArray rc⟩, .string ⟨List.toArray tx⟩, .string ⟨List.toArray me⟩, .string ⟨List.toArray ne⟩, .slice va X.length vc]) rfl Q13 ?_; (case hw => rfl)))
      refine hck.mono ?_
      rintro e w14 ⟨rfl, hbx⟩
      have Z14 := Z13.keep hbx
      have Q14 := Q13.keep hbx
      have hr14 := hr.keep hbx
      have hb14 := hb.trans (hbx.mono hb.size)
      clear hck hbx hb Z13 Q13 hr b1 b2 b3
      go_wp2_with (first | (refine wpList_rowLoadG row_head ?hw (.tmp 5) rfl rfl (vs := [.int .i64 ((n1 : Nat)), .int .i64 ((n2 : Nat)), .int .i64 ((n3 : Nat)), .bool lb, .string ⟨List.toArray pa⟩, .string ⟨List.toArray st⟩, .string ⟨List.toArray rc⟩, .string ⟨List.toArray tx⟩, .string ⟨List.toArray me⟩, .string ⟨List.toArray ne⟩, .slice va X.length vc]) rfl Q14 ?_; (case hw => rfl)))
      refine (qw _ hr14.ss).mono ?_
      rintro e w15 ⟨rfl, hbx⟩
      have Z15 := Z14.keep hbx
      have Q15 := Q14.keep hbx
      have hr15 := hr14.keep hbx
      have hb15 := hb14.trans (hbx.mono hb14.size)
      clear qw hbx hb14 Z14 Q14 hr14
      go_wp2_with (first | (refine wpList_rowLoad row_head rfl (.tmp 5) rfl rfl (vs := [.int .i64 ((n1 : Nat)), .int .i64 ((n2 : Nat)), .int .i64 ((n3 : Nat)), .bool lb, .string ⟨List.toArray pa⟩, .string ⟨List.toArray st⟩, .string ⟨List.toArray rc⟩, .string ⟨List.toArray tx⟩, .string ⟨List.toArray me⟩, .string ⟨List.toArray ne⟩, .slice va X.length vc]) rfl Q15 ?_) | (refine wpList_rowStore row_head rfl rfl (.tmp 2) (.tmp 74) rfl rfl rfl (vs := [.int .i64 ((n1 : Nat)), .int .i64 ((n2 : Nat)), .int .i64 ((n3 : Nat)), .bool lb, .string ⟨List.toArray pa⟩, .string ⟨List.toArray st⟩, .string ⟨List.toArray rc⟩, .string ⟨List.toArray tx⟩, .string ⟨List.toArray me⟩, .string ⟨List.toArray ne⟩, .slice va X.length vc]) rfl (by simp [Value.oneCell']) (us := [.int .i64 0, .int .i64 0, .int .i64 0, .bool false, .string ⟨List.toArray []⟩, .string ⟨List.toArray []⟩, .string ⟨List.toArray []⟩, .string ⟨List.toArray []⟩, .string ⟨List.toArray []⟩, .string ⟨List.toArray []⟩, .slice none 0 0]) rfl Z15 ?_; intro w16 N16 m16))
      have hld := row_loadVar row_head w16 (vs := [.int .i64 ((n1 : Nat)), .int .i64 ((n2 : Nat)), .int .i64 ((n3 : Nat)), .bool lb, .string ⟨List.toArray pa⟩, .string ⟨List.toArray st⟩, .string ⟨List.toArray rc⟩, .string ⟨List.toArray tx⟩, .string ⟨List.toArray me⟩, .string ⟨List.toArray ne⟩, .slice va X.length vc]) rfl N16
      refine bodyPost_ret (results_cell_tmp2 rfl _ _ _ _ rfl hld) rfl ?_
      rw [HRE.out]
      exact ⟨_, rfl, ⟨_, rfl, SRow.low (hr15.mod m16 (by omega)) (by omega)⟩, Below.mod hb15 m16 hb15.size (by simp)⟩
     ·have HRE : Hid (R = (hdZ, 190)) := Lib.hid (by rw [HRD.out, if_neg (fun h => hws h.2.2)])
      have e1 : (writH ⟨n1, n2, n3, lb, pa, st, rc, tx, me, ne, X⟩ != s) = true := by simpa using hws
      have e2 : (writH ⟨n1, n2, n3, lb, pa, st, rc, tx, me, ne, X⟩ == s) = false := by simpa using hws
      have e3 : decide (writH ⟨n1, n2, n3, lb, pa, st, rc, tx, me, ne, X⟩ = s) = false := by simpa using hws
      clear hf HRD HWW qf hws
      generalize writH ⟨n1, n2, n3, lb, pa, st, rc, tx, me, ne, X⟩ = V at *
      go_wp2_with (first | (refine wpList_rowLoadG row_head ?hw (.tmp 5) rfl rfl (vs := [.int .i64 ((n1 : Nat)), .int .i64 ((n2 : Nat)), .int .i64 ((n3 : Nat)), .bool lb, .string ⟨List.toArray pa⟩, .string ⟨List.toArray st⟩, .string ⟨List.toArray rc⟩, .string ⟨List.toArray tx⟩, .string ⟨List.toArray me⟩, .string ⟨List.toArray ne⟩, .slice va X.length vc]) rfl Q13 ?_; (case hw => rfl)))
      refine hck.mono ?_
      rintro e w14 ⟨rfl, hbx⟩
      have Z14 := Z13.keep hbx
      have Q14 := Q13.keep hbx
      have hr14 := hr.keep hbx
      have hb14 := hb.trans (hbx.mono hb.size)
      clear hck hbx hb Z13 Q13 hr b1 b2 b3
      go_wp2_with (first | (refine wpList_rowLoadG row_head ?hw (.tmp 5) rfl rfl (vs := [.int .i64 ((n1 : Nat)), .int .i64 ((n2 : Nat)), .int .i64 ((n3 : Nat)), .bool lb, .string ⟨List.toArray pa⟩, .string ⟨List.toArray st⟩, .string ⟨List.toArray rc⟩, .string ⟨List.toArray tx⟩, .string ⟨List.toArray me⟩, .string ⟨List.toArray ne⟩, .slice va X.length vc]) rfl Q14 ?_; (case hw => rfl)))
      refine (qw _ hr14.ss).mono ?_
      rintro e w15 ⟨rfl, hbx⟩
      have Z14 := Z14.keep hbx
      have hb14 := hb14.trans (hbx.mono hb14.size)
      clear qw hbx Q14 hr14
      go_wp2_with (first | (refine wpList_rowStore row_head rfl rfl (.tmp 2) (.tmp 73) rfl rfl rfl (vs := [.int .i64 0, .int .i64 0, .int .i64 0, .bool false, .string ⟨List.toArray []⟩, .string ⟨List.toArray []⟩, .string ⟨List.toArray []⟩, .string ⟨List.toArray []⟩, .string ⟨List.toArray []⟩, .string ⟨List.toArray []⟩, .slice none 0 0]) rfl (by simp [Value.oneCell']) (us := [.int .i64 0, .int .i64 0, .int .i64 0, .bool false, .string ⟨List.toArray []⟩, .string ⟨List.toArray []⟩, .string ⟨List.toArray []⟩, .string ⟨List.toArray []⟩, .string ⟨List.toArray []⟩, .string ⟨List.toArray []⟩, .slice none 0 0]) rfl Z14 ?_; intro w16 N16 m16))
      have hld := row_loadVar row_head w16 (vs := [.int .i64 0, .int .i64 0, .int .i64 0, .bool false, .string ⟨List.toArray []⟩, .string ⟨List.toArray []⟩, .string ⟨List.toArray []⟩, .string ⟨List.toArray []⟩, .string ⟨List.toArray []⟩, .string ⟨List.toArray []⟩, .slice none 0 0]) rfl N16
      refine bodyPost_ret (results_cell_tmp2 rfl _ _ _ _ rfl hld) rfl ?_
      rw [HRE.out]
      exact ⟨_, rfl, ⟨_, rfl, SRow.nil _ _⟩, Below.mod hb14 m16 hb14.size (by simp)⟩
   ·have e1 : (cx == 0) = false := by simpa using h0
    have e2 : (cx != 0) = true := by simpa using h0
    have HRE : Hid (R = (hdZ, 190)) := Lib.hid (by rw [HRD.out, if_neg (fun h => h0 h.1)])
    have Z14 := Z13
    have hb14 := hb
    clear h0 HRD Q13 hr Z13 hb HWW qf
    go_wp2_with (first | (refine wpList_rowStore row_head rfl rfl (.tmp 2) (.tmp 73) rfl rfl rfl (vs := [.int .i64 0, .int .i64 0, .int .i64 0, .bool false, .string ⟨List.toArray []⟩, .string ⟨List.toArray []⟩, .string ⟨List.toArray []⟩, .string ⟨List.toArray []⟩, .string ⟨List.toArray []⟩, .string ⟨List.toArray []⟩, .slice none 0 0]) rfl (by simp [Value.oneCell']) (us := [.int .i64 0, .int .i64 0, .int .i64 0, .bool false, .string ⟨List.toArray []⟩, .string ⟨List.toArray []⟩, .string ⟨List.toArray []⟩, .string ⟨List.toArray []⟩, .string ⟨List.toArray []⟩, .string ⟨List.toArray []⟩, .slice none 0 0]) rfl Z14 ?_; intro w16 N16 m16))
    have hld := row_loadVar row_head w16 (vs := [.int .i64 0, .int .i64 0, .int .i64 0, .bool false, .string ⟨List.toArray []⟩, .string ⟨List.toArray []⟩, .string ⟨List.toArray []⟩, .string ⟨List.toArray []⟩, .string ⟨List.toArray []⟩, .string ⟨List.toArray []⟩, .slice none 0 0]) rfl N16
    refine bodyPost_ret (results_cell_tmp2 rfl _ _ _ _ rfl hld) rfl ?_
    rw [HRE.out]
    exact ⟨_, rfl, ⟨_, rfl, SRow.nil _ _⟩, Below.mod hb14 m16 hb14.size (by simp)⟩
end Go.Proofs.YthgjdaomcpinaaaGreatDoor
