/- HeadD. -/
import Derived.Test.YthgjdaomcpinaaaGreatDoorMp11
set_option linter.unnecessarySimpa false
set_option linter.unusedSimpArgs false
set_option linter.unusedVariables false
set_option maxRecDepth 100000
set_option maxHeartbeats 32000000
namespace Go.Proofs.YthgjdaomcpinaaaGreatDoor
open Go.RowKit Go.Shelf Pl
theorem rdH_at {s : Bs} {n1 n2 n3 : Nat} {lb : Bool} {pa st rc tx me ne s1 s2 s3 s4 s5 s6 s7 s8 s9 s10 : Bs} {c1 c2 c3 c4 c5 c6 c7 c8 c9 c10 : Int} (e1 : mNum s 0 = (n1, s1, c1)) (e2 : mNum s1 c1 = (n2, s2, c2)) (e3 : mNum s2 c2 = (n3, s3, c3)) (e4 : mFlag s3 c3 = (lb, s4, c4)) (e5 : mText s4 c4 32 = (pa, s5, c5)) (e6 : mText s5 c5 32 = (st, s6, c6)) (e7 : mText s6 c6 32 = (rc, s7, c7)) (e8 : mBytes s7 c7 32 = (tx, s8, c8)) (e9 : mBytes s8 c8 32 = (me, s9, c9)) (e10 : mBytes s9 c9 32 = (ne, s10, c10)) :
  rdH s = ⟨⟨n1, n2, n3, lb, pa, st, rc, tx, me, ne, (mSk s10 c10 (linksF n1).length).1⟩, (mSk s10 c10 (linksF n1).length).2.1, (mSk s10 c10 (linksF n1).length).2.2⟩ := by
 unfold rdH
 simp only [e1, e2, e3, e4, e5, e6, e7, e8, e9, e10]
theorem row_head : RowT Tryz.prog 24 11 := RowT.mk' Tryz.underlying24 rfl (by kernel_rfl)
theorem results_cell_tmp2 {P : Program} {fn : Func} {a b : Nat} {t : TypeId} (h : fn.results = #[.cell a t, .tmp b]) (tmps : Array Value) (w : World) (p : Addr) (v : Value) (hp : tmps.getD a undef = .pointer (some p)) (hl : (loadVar t p).run P w = .ok v w) :
  (results fn tmps).run P w = .ok (.tuple #[v, tmps.getD b undef]) w := by
 unfold results
 rw [h]
 rw [Array.getD_eq_getD_getElem?] at hp
 simp [hp, asAddr, hl, Sem.run_bind]
theorem Blk.belowB {w w' : World} {B b : Nat} {cs : Array Value} (h : Blk w b cs) (hb : Below B w w') (hp : b < B) : Blk w' b cs := h.of_block (hb.block b hp) hb.size
theorem Rdr.belowB {w w' : World} {B p : Nat} {s : Bs} {c : Int} (h : Rdr w p s c) (hb : Below B w w') (hp : p < B) : Rdr w' p s c := by
 obtain ⟨l, a, h1, h2, h3, h4⟩ := h
 exact ⟨l, a, h1, h2, h3, Blk.belowB h4 hb hp⟩
theorem ssrc_one {w : World} {g : Nat} {a : Bs} (hh : w.heap[g]? = some (.cells #[.string ⟨List.toArray a⟩] 9)) : SSrc w g 0 [a] := by
 intro i hi
 have : i = 0 := by simp at hi; omega
 subst this
 simp [World.cell?, hh]
theorem blk_eq {w : World} {b : Nat} {c d : Array Value} (h : Blk w b c) (e : c = d) : Blk w b d := e ▸ h
def HRow (w : World) (base : Nat) (v : Value) (h : Hd) : Prop := ∃ sk, v = .agg #[.int .i64 h.height, .int .i64 h.epoch, .int .i64 h.view, .bool h.last, .string ⟨List.toArray h.parent⟩, .string ⟨List.toArray h.state⟩, .string ⟨List.toArray h.receipts⟩, .string ⟨List.toArray h.txs⟩, .string ⟨List.toArray h.members⟩, .string ⟨List.toArray h.next⟩, sk] ∧ SRow w base sk h.skips
theorem hd_decode (s : Bs) (hs : s.length ≤ 9223372036854775000) (w : World) :
  Calls Tryz.prog 54 #[.string ⟨List.toArray s⟩] w fun e w' => ∃ v, e = .returned (.tuple #[v, .int .i64 ((decH s).2)]) ∧ HRow w' w.heap.size v (decH s).1 ∧ Below w.heap.size w w' := by
 generalize hR : decH s = R
 have HR := Lib.hid hR
 clear hR
 have hz0 : Blk (w.alloc (.cells #[.int .i64 0, .int .i64 0, .int .i64 0, .bool false, .string ⟨List.toArray []⟩, .string ⟨List.toArray []⟩, .string ⟨List.toArray []⟩, .string ⟨List.toArray []⟩, .string ⟨List.toArray []⟩, .string ⟨List.toArray []⟩, .slice none 0 0] 24)) w.heap.size #[.int .i64 0, .int .i64 0, .int .i64 0, .bool false, .string ⟨List.toArray []⟩, .string ⟨List.toArray []⟩, .string ⟨List.toArray []⟩, .string ⟨List.toArray []⟩, .string ⟨List.toArray []⟩, .string ⟨List.toArray []⟩, .slice none 0 0] := Blk.new _ _ _
 have hb0 : Below w.heap.size w (w.alloc (.cells #[.int .i64 0, .int .i64 0, .int .i64 0, .bool false, .string ⟨List.toArray []⟩, .string ⟨List.toArray []⟩, .string ⟨List.toArray []⟩, .string ⟨List.toArray []⟩, .string ⟨List.toArray []⟩, .string ⟨List.toArray []⟩, .slice none 0 0] 24)) := Below.allocS (Below.refl _ _) _
 have hs0 : (w.alloc (.cells #[.int .i64 0, .int .i64 0, .int .i64 0, .bool false, .string ⟨List.toArray []⟩, .string ⟨List.toArray []⟩, .string ⟨List.toArray []⟩, .string ⟨List.toArray []⟩, .string ⟨List.toArray []⟩, .string ⟨List.toArray []⟩, .slice none 0 0] 24)).heap.size = w.heap.size + 1 := by simp
 have hrn := readNew s (w.alloc (.cells #[.int .i64 0, .int .i64 0, .int .i64 0, .bool false, .string ⟨List.toArray []⟩, .string ⟨List.toArray []⟩, .string ⟨List.toArray []⟩, .string ⟨List.toArray []⟩, .string ⟨List.toArray []⟩, .string ⟨List.toArray []⟩, .slice none 0 0] 24))
 go_enter Tryz.func54, Tryz.ntmps54
 go_wp2_with fail
 refine hrn.mono ?_
 rintro e w1 ⟨rfl, hw1⟩
 have R0 : Rdr w1 (w.heap.size + 1) s 0 := by rw [hw1, ← hs0]; exact Rdr.new (by omega)
 have Z0 : Blk w1 w.heap.size #[.int .i64 0, .int .i64 0, .int .i64 0, .bool false, .string ⟨List.toArray []⟩, .string ⟨List.toArray []⟩, .string ⟨List.toArray []⟩, .string ⟨List.toArray []⟩, .string ⟨List.toArray []⟩, .string ⟨List.toArray []⟩, .slice none 0 0] := by rw [hw1]; exact hz0.alloc _
 have hb1 : Below w.heap.size w w1 := by rw [hw1]; exact Below.allocS hb0 _
 have hs1 : w1.heap.size = w.heap.size + 2 := by rw [hw1]; simp
 rw [hs0]
 clear hrn hw1 hz0 hb0 hs0
 have R0 : Rdr (w1.alloc (.cells #[.int .i64 0, .int .i64 0, .int .i64 0, .bool false, .string ⟨List.toArray []⟩, .string ⟨List.toArray []⟩, .string ⟨List.toArray []⟩, .string ⟨List.toArray []⟩, .string ⟨List.toArray []⟩, .string ⟨List.toArray []⟩, .slice none 0 0] 24)) (w.heap.size + 1) s 0 := R0.alloc _
 have Z0 : Blk (w1.alloc (.cells #[.int .i64 0, .int .i64 0, .int .i64 0, .bool false, .string ⟨List.toArray []⟩, .string ⟨List.toArray []⟩, .string ⟨List.toArray []⟩, .string ⟨List.toArray []⟩, .string ⟨List.toArray []⟩, .string ⟨List.toArray []⟩, .slice none 0 0] 24)) w.heap.size #[.int .i64 0, .int .i64 0, .int .i64 0, .bool false, .string ⟨List.toArray []⟩, .string ⟨List.toArray []⟩, .string ⟨List.toArray []⟩, .string ⟨List.toArray []⟩, .string ⟨List.toArray []⟩, .string ⟨List.toArray []⟩, .slice none 0 0] := Z0.alloc _
 have Q0 : Blk (w1.alloc (.cells #[.int .i64 0, .int .i64 0, .int .i64 0, .bool false, .string ⟨List.toArray []⟩, .string ⟨List.toArray []⟩, .string ⟨List.toArray []⟩, .string ⟨List.toArray []⟩, .string ⟨List.toArray []⟩, .string ⟨List.toArray []⟩, .slice none 0 0] 24)) w1.heap.size #[.int .i64 0, .int .i64 0, .int .i64 0, .bool false, .string ⟨List.toArray []⟩, .string ⟨List.toArray []⟩, .string ⟨List.toArray []⟩, .string ⟨List.toArray []⟩, .string ⟨List.toArray []⟩, .string ⟨List.toArray []⟩, .slice none 0 0] := Blk.new' rfl
 have hb1 : Below w.heap.size w (w1.alloc (.cells #[.int .i64 0, .int .i64 0, .int .i64 0, .bool false, .string ⟨List.toArray []⟩, .string ⟨List.toArray []⟩, .string ⟨List.toArray []⟩, .string ⟨List.toArray []⟩, .string ⟨List.toArray []⟩, .string ⟨List.toArray []⟩, .slice none 0 0] 24)) := Below.allocS hb1 _
 generalize hp : w.heap.size + 1 = p at *
 have o1 : w.heap.size < p := by omega
 have o2 : p < w1.heap.size := by omega
 have HQL := Lib.hid Q0.lt
 clear hs1 hp
 go_wp2_with fail
 have h1 := rnum_any s 0 p _ R0
 generalize e1 : mNum s 0 = y at h1
 obtain ⟨n1, s1, c1⟩ := y
 have E1 := Lib.hid e1
 clear e1
 simp only at h1
 refine h1.mono ?_
 rintro e w2 ⟨rfl, R1, m1⟩
 have Q1 := Q0.mod m1 (by simp; omega)
 have Z1 := Z0.mod m1 (by simp; omega)
 have hb2 := Below.mod hb1 m1 hb1.size (by simp; omega)
 clear h1 m1 Q0 Z0 hb1 R0
 go_wp2_with fail
 have h2 := rnum_any s1 c1 p _ R1
 generalize e2 : mNum s1 c1 = y at h2
 obtain ⟨n2, s2, c2⟩ := y
 have E2 := Lib.hid e2
 clear e2
 simp only at h2
 refine h2.mono ?_
 rintro e w3 ⟨rfl, R2, m2⟩
 have Q2 := Q1.mod m2 (by simp; omega)
 have Z2 := Z1.mod m2 (by simp; omega)
 have hb3 := Below.mod hb2 m2 hb2.size (by simp; omega)
 clear h2 m2 Q1 Z1 hb2 R1
 go_wp2_with fail
 have h3 := rnum_any s2 c2 p _ R2
 generalize e3 : mNum s2 c2 = y at h3
 obtain ⟨n3, s3, c3⟩ := y
 have E3 := Lib.hid e3
 clear e3
 simp only at h3
 refine h3.mono ?_
 rintro e w4 ⟨rfl, R3, m3⟩
 have Q3 := Q2.mod m3 (by simp; omega)
 have Z3 := Z2.mod m3 (by simp; omega)
 have hb4 := Below.mod hb3 m3 hb3.size (by simp; omega)
 clear h3 m3 Q2 Z2 hb3 R2
 obtain ⟨b1, b2, b3⟩ := id Q3
 go_wp2_with fail
 clear b1 b2 b3
 replace R3 := (((R3).other (x := ⟨w1.heap.size, 0, none⟩) (by simp; omega) (.int .i64 ((n1 : Nat)))).other (x := ⟨w1.heap.size, 1, none⟩) (by simp; omega) (.int .i64 ((n2 : Nat)))).other (x := ⟨w1.heap.size, 2, none⟩) (by simp; omega) (.int .i64 ((n3 : Nat)))
 replace Z3 := (((Z3).other (a := ⟨w1.heap.size, 0, none⟩) (by simp; omega) (.int .i64 ((n1 : Nat)))).other (a := ⟨w1.heap.size, 1, none⟩) (by simp; omega) (.int .i64 ((n2 : Nat)))).other (a := ⟨w1.heap.size, 2, none⟩) (by simp; omega) (.int .i64 ((n3 : Nat)))
 replace hb4 := (((hb4).setCell (p := ⟨w1.heap.size, 0, none⟩) (by simp; omega) (.int .i64 ((n1 : Nat)))).setCell (p := ⟨w1.heap.size, 1, none⟩) (by simp; omega) (.int .i64 ((n2 : Nat)))).setCell (p := ⟨w1.heap.size, 2, none⟩) (by simp; omega) (.int .i64 ((n3 : Nat)))
 replace Q3 := (((Q3).set 0 (.int .i64 ((n1 : Nat)))).set 1 (.int .i64 ((n2 : Nat)))).set 2 (.int .i64 ((n3 : Nat)))
 replace Q3 := blk_eq (d := #[.int .i64 ((n1 : Nat)), .int .i64 ((n2 : Nat)), .int .i64 ((n3 : Nat)), .bool false, .string ⟨List.toArray []⟩, .string ⟨List.toArray []⟩, .string ⟨List.toArray []⟩, .string ⟨List.toArray []⟩, .string ⟨List.toArray []⟩, .string ⟨List.toArray []⟩, .slice none 0 0]) Q3 (by simp)
 have h4 := rflag_any s3 c3 p _ R3
 generalize e4 : mFlag s3 c3 = y at h4
 obtain ⟨lb, s4, c4⟩ := y
 have E4 := Lib.hid e4
 clear e4
 simp only at h4
 refine h4.mono ?_
 rintro e w5 ⟨rfl, R4, m4⟩
 have Q4 := Q3.mod m4 (by simp; omega)
 have Z4 := Z3.mod m4 (by simp; omega)
 have hb5 := Below.mod hb4 m4 hb4.size (by simp; omega)
 clear h4 m4 Q3 Z3 hb4 R3
 obtain ⟨b1, b2, b3⟩ := id Q4
 go_wp2_with fail
 clear b1 b2 b3
 replace R4 := (R4).other (x := ⟨w1.heap.size, 3, none⟩) (by simp; omega) (.bool lb)
 replace Z4 := (Z4).other (a := ⟨w1.heap.size, 3, none⟩) (by simp; omega) (.bool lb)
 replace hb5 := (hb5).setCell (p := ⟨w1.heap.size, 3, none⟩) (by simp; omega) (.bool lb)
 replace Q4 := (Q4).set 3 (.bool lb)
 replace Q4 := blk_eq (d := #[.int .i64 ((n1 : Nat)), .int .i64 ((n2 : Nat)), .int .i64 ((n3 : Nat)), .bool lb, .string ⟨List.toArray []⟩, .string ⟨List.toArray []⟩, .string ⟨List.toArray []⟩, .string ⟨List.toArray []⟩, .string ⟨List.toArray []⟩, .string ⟨List.toArray []⟩, .slice none 0 0]) Q4 (by simp)
 have h5 := rtext_any s4 c4 32 p _ R4
 generalize e5 : mText s4 c4 32 = y at h5
 obtain ⟨pa, s5, c5⟩ := y
 have E5 := Lib.hid e5
 clear e5
 simp only at h5
 refine h5.mono ?_
 rintro e w6 ⟨rfl, R5, m5⟩
 have Q5 := Q4.mod m5 (by simp; omega)
 have Z5 := Z4.mod m5 (by simp; omega)
 have hb6 := Below.mod hb5 m5 hb5.size (by simp; omega)
 clear h5 m5 Q4 Z4 hb5 R4
 go_wp2_with fail
 have h6 := rtext_any s5 c5 32 p _ R5
 generalize e6 : mText s5 c5 32 = y at h6
 obtain ⟨st, s6, c6⟩ := y
 have E6 := Lib.hid e6
 clear e6
 simp only at h6
 refine h6.mono ?_
 rintro e w7 ⟨rfl, R6, m6⟩
 have Q6 := Q5.mod m6 (by simp; omega)
 have Z6 := Z5.mod m6 (by simp; omega)
 have hb7 := Below.mod hb6 m6 hb6.size (by simp; omega)
 clear h6 m6 Q5 Z5 hb6 R5
 go_wp2_with fail
 have h7 := rtext_any s6 c6 32 p _ R6
 generalize e7 : mText s6 c6 32 = y at h7
 obtain ⟨rc, s7, c7⟩ := y
 have E7 := Lib.hid e7
 clear e7
 simp only at h7
 refine h7.mono ?_
 rintro e w8 ⟨rfl, R7, m7⟩
 have Q7 := Q6.mod m7 (by simp; omega)
 have Z7 := Z6.mod m7 (by simp; omega)
 have hb8 := Below.mod hb7 m7 hb7.size (by simp; omega)
 clear h7 m7 Q6 Z6 hb7 R6
 obtain ⟨b1, b2, b3⟩ := id Q7
 go_wp2_with fail
 clear b1 b2 b3
 replace R7 := (((R7).other (x := ⟨w1.heap.size, 4, none⟩) (by simp; omega) (.string ⟨List.toArray pa⟩)).other (x := ⟨w1.heap.size, 5, none⟩) (by simp; omega) (.string ⟨List.toArray st⟩)).other (x := ⟨w1.heap.size, 6, none⟩) (by simp; omega) (.string ⟨List.toArray rc⟩)
 replace Z7 := (((Z7).other (a := ⟨w1.heap.size, 4, none⟩) (by simp; omega) (.string ⟨List.toArray pa⟩)).other (a := ⟨w1.heap.size, 5, none⟩) (by simp; omega) (.string ⟨List.toArray st⟩)).other (a := ⟨w1.heap.size, 6, none⟩) (by simp; omega) (.string ⟨List.toArray rc⟩)
 replace hb8 := (((hb8).setCell (p := ⟨w1.heap.size, 4, none⟩) (by simp; omega) (.string ⟨List.toArray pa⟩)).setCell (p := ⟨w1.heap.size, 5, none⟩) (by simp; omega) (.string ⟨List.toArray st⟩)).setCell (p := ⟨w1.heap.size, 6, none⟩) (by simp; omega) (.string ⟨List.toArray rc⟩)
 replace Q7 := (((Q7).set 4 (.string ⟨List.toArray pa⟩)).set 5 (.string ⟨List.toArray st⟩)).set 6 (.string ⟨List.toArray rc⟩)
 replace Q7 := blk_eq (d := #[.int .i64 ((n1 : Nat)), .int .i64 ((n2 : Nat)), .int .i64 ((n3 : Nat)), .bool lb, .string ⟨List.toArray pa⟩, .string ⟨List.toArray st⟩, .string ⟨List.toArray rc⟩, .string ⟨List.toArray []⟩, .string ⟨List.toArray []⟩, .string ⟨List.toArray []⟩, .slice none 0 0]) Q7 (by simp)
 have h8 := bytes_any s7 c7 32 p _ (by omega) R7
 generalize e8 : mBytes s7 c7 32 = y at h8
 obtain ⟨tx, s8, c8⟩ := y
 have E8 := Lib.hid e8
 clear e8
 simp only at h8
 refine h8.mono ?_
 rintro e w9 ⟨rfl, R8, m8⟩
 have Q8 := Q7.mod m8 (by simp; omega)
 have Z8 := Z7.mod m8 (by simp; omega)
 have hb9 := Below.mod hb8 m8 hb8.size (by simp; omega)
 clear h8 m8 Q7 Z7 hb8 R7
 go_wp2_with fail
 have h9 := bytes_any s8 c8 32 p _ (by omega) R8
 generalize e9 : mBytes s8 c8 32 = y at h9
 obtain ⟨me, s9, c9⟩ := y
 have E9 := Lib.hid e9
 clear e9
 simp only at h9
 refine h9.mono ?_
 rintro e w10 ⟨rfl, R9, m9⟩
 have Q9 := Q8.mod m9 (by simp; omega)
 have Z9 := Z8.mod m9 (by simp; omega)
 have hb10 := Below.mod hb9 m9 hb9.size (by simp; omega)
 clear h9 m9 Q8 Z8 hb9 R8
 go_wp2_with fail
 have h10 := bytes_any s9 c9 32 p _ (by omega) R9
 generalize e10 : mBytes s9 c9 32 = y at h10
 obtain ⟨ne, s10, c10⟩ := y
 have E10 := Lib.hid e10
 clear e10
 simp only at h10
 refine h10.mono ?_
 rintro e w11 ⟨rfl, R10, m10⟩
 have Q10 := Q9.mod m10 (by simp; omega)
 have Z10 := Z9.mod m10 (by simp; omega)
 have hb11 := Below.mod hb10 m10 hb10.size (by simp; omega)
 clear h10 m10 Q9 Z9 hb10 R9
 obtain ⟨b1, b2, b3⟩ := id Q10
 go_wp2_with fail
 clear b1 b2 b3
 replace R10 := (((R10).other (x := ⟨w1.heap.size, 7, none⟩) (by simp; omega) (.string ⟨List.toArray tx⟩)).other (x := ⟨w1.heap.size, 8, none⟩) (by simp; omega) (.string ⟨List.toArray me⟩)).other (x := ⟨w1.heap.size, 9, none⟩) (by simp; omega) (.string ⟨List.toArray ne⟩)
 replace Z10 := (((Z10).other (a := ⟨w1.heap.size, 7, none⟩) (by simp; omega) (.string ⟨List.toArray tx⟩)).other (a := ⟨w1.heap.size, 8, none⟩) (by simp; omega) (.string ⟨List.toArray me⟩)).other (a := ⟨w1.heap.size, 9, none⟩) (by simp; omega) (.string ⟨List.toArray ne⟩)
 replace hb11 := (((hb11).setCell (p := ⟨w1.heap.size, 7, none⟩) (by simp; omega) (.string ⟨List.toArray tx⟩)).setCell (p := ⟨w1.heap.size, 8, none⟩) (by simp; omega) (.string ⟨List.toArray me⟩)).setCell (p := ⟨w1.heap.size, 9, none⟩) (by simp; omega) (.string ⟨List.toArray ne⟩)
 replace Q10 := (((Q10).set 7 (.string ⟨List.toArray tx⟩)).set 8 (.string ⟨List.toArray me⟩)).set 9 (.string ⟨List.toArray ne⟩)
 replace Q10 := blk_eq (d := #[.int .i64 ((n1 : Nat)), .int .i64 ((n2 : Nat)), .int .i64 ((n3 : Nat)), .bool lb, .string ⟨List.toArray pa⟩, .string ⟨List.toArray st⟩, .string ⟨List.toArray rc⟩, .string ⟨List.toArray tx⟩, .string ⟨List.toArray me⟩, .string ⟨List.toArray ne⟩, .slice none 0 0]) Q10 (by simp)
 refine (links_any _ _).mono ?_
 rintro e w12 ⟨vl, rfl, hz, hbl⟩
 obtain ⟨za, zc, rfl⟩ := hz.form
 have R11 := Rdr.mod (l := []) R10 (Mod.of_below hbl) (by simp)
 have Z11 := Z10.keep hbl
 have Q11 := Q10.keep hbl
 have hb12 := hb11.trans (hbl.mono hb11.size)
 have HRD : Hid (R = if mEnd (mSk s10 c10 (linksF n1).length).2.1 (mSk s10 c10 (linksF n1).length).2.2 = 0 ∧ fineH ⟨n1, n2, n3, lb, pa, st, rc, tx, me, ne, (mSk s10 c10 (linksF n1).length).1⟩ = true then (⟨n1, n2, n3, lb, pa, st, rc, tx, me, ne, (mSk s10 c10 (linksF n1).length).1⟩, 0) else (hdZ, 190)) := Lib.hid (by
  rw [← HR.out]
  unfold decH
  rw [rdH_at E1.out E2.out E3.out E4.out E5.out E6.out E7.out E8.out E9.out E10.out])
 have hn20 := linksF_len n1
 clear E1 E2 E3 E4 E5 E6 E7 E8 E9 E10 HR hz hbl R10 Z10 Q10 hb11
 generalize (linksF n1).length = n at *
 go_wp2_with fail
 go_loopw [42] (fun s42 wr => ∃ (i : Nat) (v : Value), s42 = .int .i64 i ∧ i ≤ n ∧ Blk wr w1.heap.size #[.int .i64 ((n1 : Nat)), .int .i64 ((n2 : Nat)), .int .i64 ((n3 : Nat)), .bool lb, .string ⟨List.toArray pa⟩, .string ⟨List.toArray st⟩, .string ⟨List.toArray rc⟩, .string ⟨List.toArray tx⟩, .string ⟨List.toArray me⟩, .string ⟨List.toArray ne⟩, v] ∧ SRow wr (w1.heap.size + 1) v (mSk s10 c10 i).1 ∧ Rdr wr p (mSk s10 c10 i).2.1 (mSk s10 c10 i).2.2 ∧ Blk wr w.heap.size #[.int .i64 0, .int .i64 0, .int .i64 0, .bool false, .string ⟨List.toArray []⟩, .string ⟨List.toArray []⟩, .string ⟨List.toArray []⟩, .string ⟨List.toArray []⟩, .string ⟨List.toArray []⟩, .string ⟨List.toArray []⟩, .slice none 0 0] ∧ Below w.heap.size w wr) (fun s42 _ => n - (intOf s42).toNat)
 case atStart => exact ⟨0, _, rfl, Nat.zero_le _, Q11, SRow.nil _ _, R11, Z11, hb12⟩
 case round =>
  clear Q11 R11 Z11 hb12
  obtain ⟨i, v, rfl, hi, Q, hr, Rr, Z, hb⟩ := hrel
  obtain ⟨wr, hnm⟩ := Below.name hb
  subst hnm
  by_cases hlt : i < n
  ·have HLT := Lib.hid hlt
   have i1 : decide ((i : Int) < (n : Int)) = true := by simp; omega
   have HXL := Lib.hid (mSk_len s10 c10 i)
   have HMS : Hid (mSk s10 c10 (i + 1) = ((mSk s10 c10 i).1 ++ [(mBytes (mSk s10 c10 i).2.1 (mSk s10 c10 i).2.2 32).1], (mBytes (mSk s10 c10 i).2.1 (mSk s10 c10 i).2.2 32).2.1, (mBytes (mSk s10 c10 i).2.1 (mSk s10 c10 i).2.2 32).2.2)) := Lib.hid rfl
   generalize mSk s10 c10 i = x at *
   obtain ⟨X, sx, cx⟩ := x
   simp only at hr Rr
   have hby := fun W (h : Rdr W p sx cx) => bytes_any sx cx 32 p W (by omega) h
   have HMS : Hid (mSk s10 c10 (i + 1) = (X ++ [(mBytes sx cx 32).1], (mBytes sx cx 32).2.1, (mBytes sx cx 32).2.2)) := HMS
   generalize mBytes sx cx 32 = y at *
   obtain ⟨b, sy, cy⟩ := y
   simp only at hby
   obtain ⟨va, vc, rfl⟩ := hr.form
   have hlq := Q.lt
   clear hlt
   go_wp2_with fail
   refine wpH_startB (p) (by kernel_rfl) (fun hS => ?_)
   have K0 := Q.drew
   obtain ⟨k1, k2, k3⟩ := id K0
   have hr0 := hr.drew
   (refine hP 0 ?_ ⟨some 44, .fieldAddr 24 (.tmp 5) 10, 0, "", #[], none⟩ hS ?_ ?_; rotate_left; focus (intro w; go_simp; try with_reducible rfl))
   try simp only [pna, pnb, pnc, pnd, pne]
   (refine hP 2 ?_ ⟨some 46, .move (.tmp 4), 96, "", #[], none⟩ hS ?_ ?_; rotate_left; focus (intro w; go_simp; try with_reducible rfl))
   try simp only [pna, pnb, pnc, pnd, pne]
   refine wpAnyH_all (rs := [1, 3]) (by kernel_rfl) (by simp) (fun jj hjj => ?_)
   simp only [List.mem_cons, List.not_mem_nil, or_false] at hjj
   rcases hjj with rfl | rfl
   refine wpO_op (oi := { dst := some 45, op := Op.load 22 (Operand.tmp 44), type := 22, pos := "header.go:79", after := #[{ on := 0, ground := Ground.data }], guard := none }) rfl (by rfl) ?_
   refine wp_loads (.slice va X.length vc) (by go_simp; try rfl) ?_
   refine ⟨hS, ?_⟩
   try simp only [pna, pnb, pnc, pnd, pne]
   refine wpH_call 3 (oi := { dst := some 47, op := Op.call { callee := Callee.value (Operand.func 105), args := #[Operand.tmp 46, Operand.const (Value.int IntKind.i64 32)], argTypes := #[96, 3] }, type := 9, pos := "header.go:79", after := #[{ on := 2, ground := Ground.data }], guard := none }) rfl (by kernel_rfl) (by rfl) (hby _ Rr.drew) ?_ ?_
   ·(go_simp; try rfl)
   rintro e w' ⟨rfl, hR2, hm2⟩
   refine ⟨_, rfl, Below.mod hS hm2 (by have := hS.size; omega) (by simp), ?_⟩
   replace hS := Below.mod hS hm2 (by have := hS.size; omega) (by simp)
   have K2 := K0.mod hm2 (by simp; omega)
   obtain ⟨y1, y2, y3⟩ := id K2
   have hr2 := hr0.mod hm2 (by omega)
   try simp only [pna, pnb, pnc, pnd, pne]
   refine wpH_op 4 (oi := { dst := some 48, op := Op.buildSlice 22 1 #[(0, Operand.tmp 47)], type := 22, pos := "header.go:79", after := #[{ on := 3, ground := Ground.data }], guard := none }) rfl (by kernel_rfl) (by rfl) ?_
   refine wp_newK 9 #[.string ⟨List.toArray b⟩] (fun k => .slice (some ⟨k, 0, none⟩) 1 1) (fun w => by go_simp; try rfl) (fun k48 W6 hk48 hh48 hlt48 hbk48 => ?_)
   refine hold_and (hS.trans (hbk48.mono (by have := hS.size; omega))) (fun hS => ?_)
   have K3 := K2.keep hbk48
   obtain ⟨x1, x2, x3⟩ := id K3
   have hr3 := hr2.keep hbk48
   have hR3 := hR2.mod (l := []) (Mod.of_below hbk48) (by simp)
   try simp only [pna, pnb, pnc, pnd, pne]
   refine wpH_op 5 (oi := { dst := some 49, op := Op.call { callee := Callee.builtin Builtin.append, args := #[Operand.tmp 45, Operand.tmp 48], argTypes := #[22, 22] }, type := 22, pos := "header.go:79", after := #[{ on := 1, ground := Ground.data }, { on := 4, ground := Ground.data }, { on := 3, ground := Ground.chain }], guard := none }) rfl (by kernel_rfl) (by rfl) ?_
   refine wp_appS (.tmp 45) (.tmp 48) rfl (w1.heap.size + 1) _ X rfl hr3 k48 0 1 1 [b] rfl rfl (ssrc_one hh48) (by have : X.length = i := HXL.out; omega) (by have := K3.lt; omega) ?_
   rintro v8 w8 hS8 hb8
   obtain ⟨va8, vc8, rfl⟩ : ∃ a c, v8 = .slice a (X.length + 1) c := by have := hS8.form; rwa [List.length_append] at this
   refine hold_and (hS.trans (hb8.mono (by omega))) (fun hS => ?_)
   have K8 := K3.belowB hb8 (by omega)
   have hR8 := hR3.belowB hb8 (by omega)
   obtain ⟨z1, z2, z3⟩ := id K8
   try simp only [pna, pnb, pnc, pnd, pne]
   (refine hP 6 ?_ ⟨some 50, .fieldAddr 24 (.tmp 5) 10, 0, "", #[], none⟩ hS ?_ ?_; rotate_left; focus (intro w; go_simp; try with_reducible rfl))
   try simp only [pna, pnb, pnc, pnd, pne]
   refine wpH_op 7 (oi := { dst := none, op := Op.store 22 (Operand.tmp 50) (Operand.tmp 49), type := 0, pos := "header.go:79", after := #[{ on := 6, ground := Ground.data }, { on := 5, ground := Ground.data }, { on := 5, ground := Ground.chain }, { on := 0, ground := Ground.phase }, { on := 1, ground := Ground.phase }, { on := 2, ground := Ground.phase }, { on := 3, ground := Ground.phase }, { on := 4, ground := Ground.phase }, { on := 5, ground := Ground.phase }], guard := none }) rfl (by kernel_rfl) (by rfl) ?_
   unfold Oper.wp; go_simp
   refine hold_and (Below.setCell (p := ⟨w1.heap.size, 10, none⟩) hS (by simp; omega) _) (fun hS => ?_)
   try simp only [pna, pnb, pnc, pnd, pne]
   refine wpAnyH_done (by kernel_rfl) ?_ _
   rotate_left
   refine wpO_call (oi := { dst := some 47, op := Op.call { callee := Callee.value (Operand.func 105), args := #[Operand.tmp 46, Operand.const (Value.int IntKind.i64 32)], argTypes := #[96, 3] }, type := 9, pos := "header.go:79", after := #[{ on := 2, ground := Ground.data }], guard := none }) rfl (by rfl) (hby _ Rr.drew) ?_ ?_
   ·(go_simp; try rfl)
   rintro e w' ⟨rfl, hR2, hm2⟩
   refine ⟨_, rfl, Below.mod hS hm2 (by have := hS.size; omega) (by simp), ?_⟩
   replace hS := Below.mod hS hm2 (by have := hS.size; omega) (by simp)
   have K2 := K0.mod hm2 (by simp; omega)
   obtain ⟨y1, y2, y3⟩ := id K2
   have hr2 := hr0.mod hm2 (by omega)
   try simp only [pna, pnb, pnc, pnd, pne]
   refine wpAnyH_all (rs := [1, 4]) (by kernel_rfl) (by simp) (fun jj hjj => ?_)
   simp only [List.mem_cons, List.not_mem_nil, or_false] at hjj
   rcases hjj with rfl | rfl
   refine wpO_op (oi := { dst := some 45, op := Op.load 22 (Operand.tmp 44), type := 22, pos := "header.go:79", after := #[{ on := 0, ground := Ground.data }], guard := none }) rfl (by rfl) ?_
   refine wp_loads (.slice va X.length vc) (by go_simp; try rfl) ?_
   refine ⟨hS, ?_⟩
   try simp only [pna, pnb, pnc, pnd, pne]
   refine wpH_op 4 (oi := { dst := some 48, op := Op.buildSlice 22 1 #[(0, Operand.tmp 47)], type := 22, pos := "header.go:79", after := #[{ on := 3, ground := Ground.data }], guard := none }) rfl (by kernel_rfl) (by rfl) ?_
   refine wp_newK 9 #[.string ⟨List.toArray b⟩] (fun k => .slice (some ⟨k, 0, none⟩) 1 1) (fun w => by go_simp; try rfl) (fun k48 W6 hk48 hh48 hlt48 hbk48 => ?_)
   refine hold_and (hS.trans (hbk48.mono (by have := hS.size; omega))) (fun hS => ?_)
   have K3 := K2.keep hbk48
   obtain ⟨x1, x2, x3⟩ := id K3
   have hr3 := hr2.keep hbk48
   have hR3 := hR2.mod (l := []) (Mod.of_below hbk48) (by simp)
   try simp only [pna, pnb, pnc, pnd, pne]
   refine wpH_op 5 (oi := { dst := some 49, op := Op.call { callee := Callee.builtin Builtin.append, args := #[Operand.tmp 45, Operand.tmp 48], argTypes := #[22, 22] }, type := 22, pos := "header.go:79", after := #[{ on := 1, ground := Ground.data }, { on := 4, ground := Ground.data }, { on := 3, ground := Ground.chain }], guard := none }) rfl (by kernel_rfl) (by rfl) ?_
   refine wp_appS (.tmp 45) (.tmp 48) rfl (w1.heap.size + 1) _ X rfl hr3 k48 0 1 1 [b] rfl rfl (ssrc_one hh48) (by have : X.length = i := HXL.out; omega) (by have := K3.lt; omega) ?_
   rintro v8 w8 hS8 hb8
   obtain ⟨va8, vc8, rfl⟩ : ∃ a c, v8 = .slice a (X.length + 1) c := by have := hS8.form; rwa [List.length_append] at this
   refine hold_and (hS.trans (hb8.mono (by omega))) (fun hS => ?_)
   have K8 := K3.belowB hb8 (by omega)
   have hR8 := hR3.belowB hb8 (by omega)
   obtain ⟨z1, z2, z3⟩ := id K8
   try simp only [pna, pnb, pnc, pnd, pne]
   (refine hP 6 ?_ ⟨some 50, .fieldAddr 24 (.tmp 5) 10, 0, "", #[], none⟩ hS ?_ ?_; rotate_left; focus (intro w; go_simp; try with_reducible rfl))
   try simp only [pna, pnb, pnc, pnd, pne]
   refine wpH_op 7 (oi := { dst := none, op := Op.store 22 (Operand.tmp 50) (Operand.tmp 49), type := 0, pos := "header.go:79", after := #[{ on := 6, ground := Ground.data }, { on := 5, ground := Ground.data }, { on := 5, ground := Ground.chain }, { on := 0, ground := Ground.phase }, { on := 1, ground := Ground.phase }, { on := 2, ground := Ground.phase }, { on := 3, ground := Ground.phase }, { on := 4, ground := Ground.phase }, { on := 5, ground := Ground.phase }], guard := none }) rfl (by kernel_rfl) (by rfl) ?_
   unfold Oper.wp; go_simp
   refine hold_and (Below.setCell (p := ⟨w1.heap.size, 10, none⟩) hS (by simp; omega) _) (fun hS => ?_)
   try simp only [pna, pnb, pnc, pnd, pne]
   refine wpAnyH_done (by kernel_rfl) ?_ _
   rotate_left
   refine wpO_op (oi := { dst := some 48, op := Op.buildSlice 22 1 #[(0, Operand.tmp 47)], type := 22, pos := "header.go:79", after := #[{ on := 3, ground := Ground.data }], guard := none }) rfl (by rfl) ?_
   refine wp_newK 9 #[.string ⟨List.toArray b⟩] (fun k => .slice (some ⟨k, 0, none⟩) 1 1) (fun w => by go_simp; try rfl) (fun k48 W6 hk48 hh48 hlt48 hbk48 => ?_)
   refine hold_and (hS.trans (hbk48.mono (by have := hS.size; omega))) (fun hS => ?_)
   have K3 := K2.keep hbk48
   obtain ⟨x1, x2, x3⟩ := id K3
   have hr3 := hr2.keep hbk48
   have hR3 := hR2.mod (l := []) (Mod.of_below hbk48) (by simp)
   try simp only [pna, pnb, pnc, pnd, pne]
   refine wpH_op 1 (oi := { dst := some 45, op := Op.load 22 (Operand.tmp 44), type := 22, pos := "header.go:79", after := #[{ on := 0, ground := Ground.data }], guard := none }) rfl (by kernel_rfl) (by rfl) ?_
   refine wp_loads (.slice va X.length vc) (by go_simp; try rfl) ?_
   refine ⟨hS, ?_⟩
   try simp only [pna, pnb, pnc, pnd, pne]
   refine wpH_op 5 (oi := { dst := some 49, op := Op.call { callee := Callee.builtin Builtin.append, args := #[Operand.tmp 45, Operand.tmp 48], argTypes := #[22, 22] }, type := 22, pos := "header.go:79", after := #[{ on := 1, ground := Ground.data }, { on := 4, ground := Ground.data }, { on := 3, ground := Ground.chain }], guard := none }) rfl (by kernel_rfl) (by rfl) ?_
   refine wp_appS (.tmp 45) (.tmp 48) rfl (w1.heap.size + 1) _ X rfl hr3 k48 0 1 1 [b] rfl rfl (ssrc_one hh48) (by have : X.length = i := HXL.out; omega) (by have := K3.lt; omega) ?_
   rintro v8 w8 hS8 hb8
   obtain ⟨va8, vc8, rfl⟩ : ∃ a c, v8 = .slice a (X.length + 1) c := by have := hS8.form; rwa [List.length_append] at this
   refine hold_and (hS.trans (hb8.mono (by omega))) (fun hS => ?_)
   have K8 := K3.belowB hb8 (by omega)
   have hR8 := hR3.belowB hb8 (by omega)
   obtain ⟨z1, z2, z3⟩ := id K8
   try simp only [pna, pnb, pnc, pnd, pne]
   (refine hP 6 ?_ ⟨some 50, .fieldAddr 24 (.tmp 5) 10, 0, "", #[], none⟩ hS ?_ ?_; rotate_left; focus (intro w; go_simp; try with_reducible rfl))
   try simp only [pna, pnb, pnc, pnd, pne]
   refine wpH_op 7 (oi := { dst := none, op := Op.store 22 (Operand.tmp 50) (Operand.tmp 49), type := 0, pos := "header.go:79", after := #[{ on := 6, ground := Ground.data }, { on := 5, ground := Ground.data }, { on := 5, ground := Ground.chain }, { on := 0, ground := Ground.phase }, { on := 1, ground := Ground.phase }, { on := 2, ground := Ground.phase }, { on := 3, ground := Ground.phase }, { on := 4, ground := Ground.phase }, { on := 5, ground := Ground.phase }], guard := none }) rfl (by kernel_rfl) (by rfl) ?_
   unfold Oper.wp; go_simp
   refine hold_and (Below.setCell (p := ⟨w1.heap.size, 10, none⟩) hS (by simp; omega) _) (fun hS => ?_)
   try simp only [pna, pnb, pnc, pnd, pne]
   refine wpAnyH_done (by kernel_rfl) ?_ _
   rotate_left
   rotate_left
   all_goals
    have hR9 := hR8.other (x := ⟨w1.heap.size, 10, none⟩) (by simp; omega) (.slice va8 (X.length + 1) vc8)
    have K9 := K8.set 10 (.slice va8 (X.length + 1) vc8)
    have hS9 : SRow _ (w1.heap.size + 1) (.slice va8 (X.length + 1) vc8) (X ++ [b]) := hS8.mod (p := w1.heap.size) ((Mod.refl [w1.heap.size] _).setCell (p := ⟨w1.heap.size, 10, none⟩) (.inl (by simp)) (.slice va8 (X.length + 1) vc8)) (by omega)
    have HR9 := Lib.hid hR9
    have HK9 := Lib.hid (blk_eq (d := #[.int .i64 ((n1 : Nat)), .int .i64 ((n2 : Nat)), .int .i64 ((n3 : Nat)), .bool lb, .string ⟨List.toArray pa⟩, .string ⟨List.toArray st⟩, .string ⟨List.toArray rc⟩, .string ⟨List.toArray tx⟩, .string ⟨List.toArray me⟩, .string ⟨List.toArray ne⟩, .slice va8 (X.length + 1) vc8]) K9 (by simp))
    have HS9 := Lib.hid hS9
    have HZ9 := Lib.hid (Z.belowB hS o1)
    have HB9 := Lib.hid (hb.trans (hS.mono (by omega)))
    clear z1 z2 z3 K8 hR8 hS8 hb8 hR9 K9 hS9 hS Z Q Rr hb hr hby
    clear k1 k2 k3 y1 y2 y3 x1 x2 x3 K0 K2 K3 hr0 hr2 hr3 hR2 hR3
    go_wp2_with fail
    refine ⟨⟨i + 1, _, by go_num, by have := HLT.out; omega, HK9.out, ?_, ?_, HZ9.out, HB9.out⟩, by have := HLT.out; simp [intOf]; omega⟩
    ·rw [HMS.out]; exact HS9.out
    ·rw [HMS.out]; exact HR9.out
  ·have e : i = n := by omega
   subst e
   have i1 : decide ((i : Int) < (i : Int)) = false := by simp
   clear hlt
   generalize mSk s10 c10 i = x at *
   obtain ⟨X, sx, cx⟩ := x
   simp only at hr Rr
   have hen := rend_any sx cx p wr Rr
   have HRD : Hid (R = if mEnd sx cx = 0 ∧ fineH ⟨n1, n2, n3, lb, pa, st, rc, tx, me, ne, X⟩ = true then (⟨n1, n2, n3, lb, pa, st, rc, tx, me, ne, X⟩, 0) else (hdZ, 190)) := HRD
   generalize mEnd sx cx = cod at *
   obtain ⟨va, vc, rfl⟩ := hr.form
   go_wp2_with fail
   refine hen.mono ?_
   rintro e w13 ⟨rfl, m13⟩
   have Q13 : Blk w13 w1.heap.size (List.toArray [.int .i64 ((n1 : Nat)), .int .i64 ((n2 : Nat)), .int .i64 ((n3 : Nat)), .bool lb, .string ⟨List.toArray pa⟩, .string ⟨List.toArray st⟩, .string ⟨List.toArray rc⟩, .string ⟨List.toArray tx⟩, .string ⟨List.toArray me⟩, .string ⟨List.toArray ne⟩, .slice va X.length vc]) := Q.mod m13 (by simp; omega)
   have Z13 : Blk w13 w.heap.size (List.toArray [.int .i64 0, .int .i64 0, .int .i64 0, .bool false, .string ⟨List.toArray []⟩, .string ⟨List.toArray []⟩, .string ⟨List.toArray []⟩, .string ⟨List.toArray []⟩, .string ⟨List.toArray []⟩, .string ⟨List.toArray []⟩, .slice none 0 0]) := Z.mod m13 (by simp; omega)
   have hb13 := Below.mod hb m13 hb.size (by simp; omega)
   have hr13 := hr.mod m13 (by omega)
   clear hen m13 Q Z hb hr Rr
   by_cases h0 : cod = 0
   ·subst h0
    have hck := hd_check n1 n2 n3 lb pa st rc tx me ne X (.slice va X.length vc) w13 hr13.ss
    cases hf : fineH ⟨n1, n2, n3, lb, pa, st, rc, tx, me, ne, X⟩
    ·rw [hf] at hck
     have HRE : Hid (R = (hdZ, 190)) := Lib.hid (by rw [HRD.out, if_neg (fun h => by rw [hf] at h; exact absurd h.2 (by decide))])
     clear hf HRD
     go_wp2_with (first | (refine wpList_rowLoadG row_head ?hw (.tmp 5) rfl rfl (vs := [.int .i64 ((n1 : Nat)), .int .i64 ((n2 : Nat)), .int .i64 ((n3 : Nat)), .bool lb, .string ⟨List.toArray pa⟩, .string ⟨List.toArray st⟩, .string ⟨List.toArray rc⟩, .string ⟨List.toArray tx⟩, .string ⟨List.toArray me⟩, .string ⟨List.toArray ne⟩, .slice va X.length vc]) rfl Q13 ?_; (case hw => rfl)))
     refine hck.mono ?_
     rintro e w14 ⟨rfl, hb⟩
     have Z14 := Z13.keep hb
     have hb14 := hb13.trans (hb.mono hb13.size)
     clear hck hb hb13 Z13 Q13 hr13
     go_wp2_with (first | (refine wpList_rowStore row_head rfl rfl (.tmp 2) (.tmp 60) rfl rfl rfl (vs := [.int .i64 0, .int .i64 0, .int .i64 0, .bool false, .string ⟨List.toArray []⟩, .string ⟨List.toArray []⟩, .string ⟨List.toArray []⟩, .string ⟨List.toArray []⟩, .string ⟨List.toArray []⟩, .string ⟨List.toArray []⟩, .slice none 0 0]) rfl (by simp [Value.oneCell']) (us := [.int .i64 0, .int .i64 0, .int .i64 0, .bool false, .string ⟨List.toArray []⟩, .string ⟨List.toArray []⟩, .string ⟨List.toArray []⟩, .string ⟨List.toArray []⟩, .string ⟨List.toArray []⟩, .string ⟨List.toArray []⟩, .slice none 0 0]) rfl Z14 ?_; intro w15 N15 m15))
     have hld := row_loadVar row_head w15 (vs := [.int .i64 0, .int .i64 0, .int .i64 0, .bool false, .string ⟨List.toArray []⟩, .string ⟨List.toArray []⟩, .string ⟨List.toArray []⟩, .string ⟨List.toArray []⟩, .string ⟨List.toArray []⟩, .string ⟨List.toArray []⟩, .slice none 0 0]) rfl N15
     refine bodyPost_ret (results_cell_tmp2 rfl _ _ _ _ rfl hld) rfl ?_
     rw [HRE.out]
     exact ⟨_, rfl, ⟨_, rfl, SRow.nil _ _⟩, Below.mod hb14 m15 hb14.size (by simp)⟩
    ·rw [hf] at hck
     have HRE : Hid (R = (⟨n1, n2, n3, lb, pa, st, rc, tx, me, ne, X⟩, 0)) := Lib.hid (by rw [HRD.out, if_pos ⟨rfl, hf⟩])
     clear hf HRD
     go_wp2_with (first | (refine wpList_rowLoadG row_head ?hw (.tmp 5) rfl rfl (vs := [.int .i64 ((n1 : Nat)), .int .i64 ((n2 : Nat)), .int .i64 ((n3 : Nat)), .bool lb, .string ⟨List.toArray pa⟩, .string ⟨List.toArray st⟩, .string ⟨List.toArray rc⟩, .string ⟨List.toArray tx⟩, .string ⟨List.toArray me⟩, .string ⟨List.toArray ne⟩, .slice va X.length vc]) rfl Q13 ?_; (case hw => rfl)))
     refine hck.mono ?_
     rintro e w14 ⟨rfl, hb⟩
     have Z14 := Z13.keep hb
     have Q14 := Q13.keep hb
     have hr14 := hr13.keep hb
     have hb14 := hb13.trans (hb.mono hb13.size)
     clear hck hb hb13 Z13 Q13 hr13
     go_wp2_with (first | (refine wpList_rowLoad row_head rfl (.tmp 5) rfl rfl (vs := [.int .i64 ((n1 : Nat)), .int .i64 ((n2 : Nat)), .int .i64 ((n3 : Nat)), .bool lb, .string ⟨List.toArray pa⟩, .string ⟨List.toArray st⟩, .string ⟨List.toArray rc⟩, .string ⟨List.toArray tx⟩, .string ⟨List.toArray me⟩, .string ⟨List.toArray ne⟩, .slice va X.length vc]) rfl Q14 ?_) | (refine wpList_rowStore row_head rfl rfl (.tmp 2) (.tmp 61) rfl rfl rfl (vs := [.int .i64 ((n1 : Nat)), .int .i64 ((n2 : Nat)), .int .i64 ((n3 : Nat)), .bool lb, .string ⟨List.toArray pa⟩, .string ⟨List.toArray st⟩, .string ⟨List.toArray rc⟩, .string ⟨List.toArray tx⟩, .string ⟨List.toArray me⟩, .string ⟨List.toArray ne⟩, .slice va X.length vc]) rfl (by simp [Value.oneCell']) (us := [.int .i64 0, .int .i64 0, .int .i64 0, .bool false, .string ⟨List.toArray []⟩, .string ⟨List.toArray []⟩, .string ⟨List.toArray []⟩, .string ⟨List.toArray []⟩, .string ⟨List.toArray []⟩, .string ⟨List.toArray []⟩, .slice none 0 0]) rfl Z14 ?_; intro w15 N15 m15))
     have hld := row_loadVar row_head w15 (vs := [.int .i64 ((n1 : Nat)), .int .i64 ((n2 : Nat)), .int .i64 ((n3 : Nat)), .bool lb, .string ⟨List.toArray pa⟩, .string ⟨List.toArray st⟩, .string ⟨List.toArray rc⟩, .string ⟨List.toArray tx⟩, .string ⟨List.toArray me⟩, .string ⟨List.toArray ne⟩, .slice va X.length vc]) rfl N15
     refine bodyPost_ret (results_cell_tmp2 rfl _ _ _ _ rfl hld) rfl ?_
     rw [HRE.out]
     exact ⟨_, rfl, ⟨_, rfl, SRow.low (hr14.mod m15 (by omega)) (by omega)⟩, Below.mod hb14 m15 hb14.size (by simp)⟩
   ·have e1 : (cod == 0) = false := by simpa using h0
    have e2 : (cod != 0) = true := by simpa using h0
    have HRE : Hid (R = (hdZ, 190)) := Lib.hid (by rw [HRD.out, if_neg (fun h => h0 h.1)])
    clear h0 HRD Q13 hr13
    go_wp2_with (first | (refine wpList_rowStore row_head rfl rfl (.tmp 2) (.tmp 60) rfl rfl rfl (vs := [.int .i64 0, .int .i64 0, .int .i64 0, .bool false, .string ⟨List.toArray []⟩, .string ⟨List.toArray []⟩, .string ⟨List.toArray []⟩, .string ⟨List.toArray []⟩, .string ⟨List.toArray []⟩, .string ⟨List.toArray []⟩, .slice none 0 0]) rfl (by simp [Value.oneCell']) (us := [.int .i64 0, .int .i64 0, .int .i64 0, .bool false, .string ⟨List.toArray []⟩, .string ⟨List.toArray []⟩, .string ⟨List.toArray []⟩, .string ⟨List.toArray []⟩, .string ⟨List.toArray []⟩, .string ⟨List.toArray []⟩, .slice none 0 0]) rfl Z13 ?_; intro w15 N15 m15))
    have hld := row_loadVar row_head w15 (vs := [.int .i64 0, .int .i64 0, .int .i64 0, .bool false, .string ⟨List.toArray []⟩, .string ⟨List.toArray []⟩, .string ⟨List.toArray []⟩, .string ⟨List.toArray []⟩, .string ⟨List.toArray []⟩, .string ⟨List.toArray []⟩, .slice none 0 0]) rfl N15
    refine bodyPost_ret (results_cell_tmp2 rfl _ _ _ _ rfl hld) rfl ?_
    rw [HRE.out]
    exact ⟨_, rfl, ⟨_, rfl, SRow.nil _ _⟩, Below.mod hb13 m15 hb13.size (by simp)⟩
end Go.Proofs.YthgjdaomcpinaaaGreatDoor
