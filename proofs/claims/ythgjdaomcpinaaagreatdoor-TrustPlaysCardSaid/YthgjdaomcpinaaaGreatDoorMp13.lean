/- RDisk, RList. -/
import Derived.Test.YthgjdaomcpinaaaGreatDoorMp12
set_option linter.unnecessarySimpa false
set_option linter.unusedSimpArgs false
set_option linter.unusedVariables false
set_option maxRecDepth 100000
set_option maxHeartbeats 32000000
namespace Go.Proofs.YthgjdaomcpinaaaGreatDoor
open Go.RowKit Pl
abbrev dcs (d : Dk) : List Value := [.string ⟨List.toArray d.s⟩, .int .i64 d.safe, .int .i64 d.room, .int .i64 d.fuse, .bool d.down]
abbrev dv (d : Dk) : Value := .agg #[.string ⟨List.toArray d.s⟩, .int .i64 d.safe, .int .i64 d.room, .int .i64 d.fuse, .bool d.down]
theorem row_dk : RowT Tryz.prog 72 5 := RowT.mk' Tryz.underlying72 rfl (by kernel_rfl)
theorem dcs_one (d : Dk) : ∀ u ∈ dcs d, u.oneCell' = true := by
 intro u hu
 simp only [dcs, List.mem_cons, List.not_mem_nil, or_false] at hu
 rcases hu with rfl | rfl | rfl | rfl | rfl <;> rfl
theorem res_dk2 {fn : Func} {a b : Nat} (h : fn.results = #[.cell a 72, .tmp b]) (tmps : Array Value) (W : World) (d : Dk) (k : Nat) (hp : tmps.getD a undef = .pointer (some ⟨k, 0, none⟩)) (hB : Blk W k (dcs d).toArray) :
  (results fn tmps).run Tryz.prog W = .ok (.tuple #[dv d, tmps.getD b undef]) W :=
 results_cell_tmp2 h tmps W _ _ hp (row_loadVar row_dk W rfl hB)
theorem res_dk1 {fn : Func} {a : Nat} (h : fn.results = #[.cell a 72]) (tmps : Array Value) (W : World) (d : Dk) (k : Nat) (hp : tmps.getD a undef = .pointer (some ⟨k, 0, none⟩)) (hB : Blk W k (dcs d).toArray) :
  (results fn tmps).run Tryz.prog W = .ok (dv d) W :=
 results_cell1 h tmps W _ _ hp (row_loadVar row_dk W rfl hB)
theorem rburnt_any (d : Dk) (hf : -9223372036854775807 ≤ d.fuse ∧ d.fuse ≤ 9223372036854775807) (w : World) :
  Calls Tryz.prog 168 #[dv d] w fun e w' => e = .returned (.tuple #[dv (burntD d).1, .bool (decide ((burntD d).2 = 0))]) ∧ Below w.heap.size w w' := by
 obtain ⟨s, safe, room, fuse, down⟩ := d
 simp only at hf
 by_cases h0 : fuse = 0
 ·subst h0
  rw [burnt_zero rfl]
  go_enter Tryz.func168, Tryz.ntmps168
  go_wp2_with fail
  refine bodyPost_ret (res_dk2 rfl _ _ ⟨s, safe, room, 0, true⟩ _ rfl (Blk.new' (by simp))) rfl ?_
  exact ⟨rfl, Below.allocS (Below.allocS (Below.refl _ _) _) _⟩
 ·have e0 : (fuse == 0) = false := by simpa using h0
  by_cases h1 : 0 < fuse
  ·have d1 : decide (0 < fuse) = true := by simpa using h1
   have w1 : IntKind.i64.wrap (fuse - 1) = fuse - 1 := by rw [IntKind.wrap_i64]; omega
   rw [burnt_pos h1]
   clear h0
   go_enter Tryz.func168, Tryz.ntmps168
   go_wp2_with fail
   refine bodyPost_ret (res_dk2 rfl _ _ ⟨s, safe, room, fuse - 1, down⟩ _ rfl (Blk.new' (by simp))) rfl ?_
   exact ⟨rfl, Below.allocS (Below.allocS (Below.refl _ _) _) _⟩
  ·have d1 : decide (0 < fuse) = false := by simpa using h1
   rw [burnt_neg (by simp only; omega)]
   clear h0 h1
   go_enter Tryz.func168, Tryz.ntmps168
   go_wp2_with fail
   refine bodyPost_ret (res_dk2 rfl _ _ ⟨s, safe, room, fuse, down⟩ _ rfl (Blk.new' (by simp))) rfl ?_
   exact ⟨rfl, Below.allocS (Below.allocS (Below.refl _ _) _) _⟩
theorem burnt_flag (d : Dk) : (burntD d).2 = 0 ∨ ((burntD d).2 = 311 ∧ decide ((burntD d).2 = 0) = false) := by
 unfold burntD
 split
 ·exact .inr ⟨rfl, rfl⟩
 ·split <;> exact .inl rfl
theorem two_blk (w : World) (d : Dk) : Blk ((w.alloc (.cells (dcs d).toArray 72)).alloc (.cells (dcs ⟨[], 0, 0, 0, false⟩).toArray 72)) w.heap.size (dcs d).toArray ∧
  Blk ((w.alloc (.cells (dcs d).toArray 72)).alloc (.cells (dcs ⟨[], 0, 0, 0, false⟩).toArray 72)) (w.heap.size + 1) (dcs ⟨[], 0, 0, 0, false⟩).toArray ∧
  Below w.heap.size w ((w.alloc (.cells (dcs d).toArray 72)).alloc (.cells (dcs ⟨[], 0, 0, 0, false⟩).toArray 72)) :=
 ⟨(Blk.new _ _ _).alloc _, Blk.new' (by simp), Below.allocS (Below.allocS (Below.refl _ _) _) _⟩
theorem mod_two {w w1 w2 : World} {B b : Nat} (hb : Below B w w1) (hm : Mod [b] w1 w2) (hB : B ≤ b) (hs : B ≤ w1.heap.size) : Below B w w2 := Below.mod hb hm hs (by intro x hx; rw [List.mem_singleton] at hx; omega)
theorem rsync_any (d : Dk) (hf : -9223372036854775807 ≤ d.fuse ∧ d.fuse ≤ 9223372036854775807) (w : World) :
  Calls Tryz.prog 142 #[dv d] w fun e w' => e = .returned (.tuple #[dv (syncD d).1, .int .i64 ((syncD d).2)]) ∧ Below w.heap.size w w' := by
 have q1 := fun W => rburnt_any d hf W
 have hbf := burnt_flag d
 have HS : Hid (syncD d = if d.down then (d, 311) else if (burntD d).2 = 0 then (⟨d.s, d.s.length, d.room, (burntD d).1.fuse, d.down⟩, 0) else burntD d) := Lib.hid rfl
 have hbs := fun h0 => burnt_same (d := d) h0
 generalize syncD d = R at *
 generalize burntD d = x at *
 obtain ⟨⟨s1, sf1, rm1, fu1, dn1⟩, c1⟩ := x
 obtain ⟨s, safe, room, fuse, down⟩ := d
 simp only at q1 hbf hbs
 cases down
 ·have HBS := Lib.hid hbs
  have HBF := Lib.hid hbf
  obtain ⟨B1, B2, hb2⟩ := two_blk w ⟨s, safe, room, fuse, false⟩
  clear hbs hbf
  go_enter Tryz.func142, Tryz.ntmps142
  go_wp2_with fail
  refine (q1 _).mono ?_
  rintro e w3 ⟨rfl, hb⟩
  have B13 := B1.keep hb
  have B23 := B2.keep hb
  have hb3 := hb2.trans (hb.mono hb2.size)
  have hs3 : w.heap.size + 2 ≤ w3.heap.size := by have := hb.size; simp at this; exact this
  clear q1 B1 B2 hb hb2
  by_cases h0 : c1 = 0
  ·subst h0
   obtain ⟨e1, e2, e3, e4⟩ := HBS.out rfl
   subst e1 e2 e3 e4
   have HR : Hid (R = (⟨s1, s1.length, rm1, fu1, false⟩, 0)) := Lib.hid (by rw [HS.out]; simp)
   clear HS HBS HBF
   go_wp2_with (first
    | (refine wpList_rowStore row_dk rfl rfl (.tmp 1) (.tmp 11) rfl rfl rfl (vs := dcs ⟨s1, sf1, rm1, fu1, false⟩) rfl (dcs_one _) (us := dcs ⟨s1, sf1, rm1, fuse, false⟩) rfl B13 ?_; intro w4 N4 m4; have B24 := B23.mod m4 (by simp); have hb4 := mod_two hb3 m4 (Nat.le_refl _) (by omega); have hs4 := m4.size; obtain ⟨n1, n2, n3⟩ := id N4)
    | (refine wpList_rowLoad row_dk rfl (.tmp 1) rfl rfl (vs := dcs ⟨s1, (s1.length : Int), rm1, fu1, false⟩) rfl (by simpa using N4.set 1 (.int .i64 ((s1.length : Int)))) ?_)
    | (refine wpList_rowStore row_dk rfl rfl (.tmp 2) (.tmp 20) rfl rfl rfl (vs := dcs ⟨s1, (s1.length : Int), rm1, fu1, false⟩) rfl (dcs_one _) (us := dcs ⟨[], 0, 0, 0, false⟩) rfl (B24.other (a := ⟨w.heap.size, 1, none⟩) (by simp) _) ?_; intro w5 N5 m5))
   have hm4 := (Mod.refl [w.heap.size] w4).setCell (p := ⟨w.heap.size, 1, none⟩) (.inl (by simp)) (.int .i64 ((s1.length : Int)))
   have hb5 := mod_two (mod_two hb4 hm4 (Nat.le_refl _) (by omega)) m5 (by omega) (by have := hm4.size; omega)
   refine bodyPost_ret (res_dk2 rfl _ _ ⟨s1, s1.length, rm1, fu1, false⟩ _ rfl N5) rfl ?_
   rw [HR.out]
   exact ⟨rfl, hb5⟩
  ·have hc : c1 = 311 := (HBF.out.resolve_left h0).1
   subst hc
   have HR : Hid (R = (⟨s1, sf1, rm1, fu1, dn1⟩, 311)) := Lib.hid (by rw [HS.out]; simp)
   clear HS HBS HBF h0
   go_wp2_with (first
    | (refine wpList_rowStore row_dk rfl rfl (.tmp 1) (.tmp 11) rfl rfl rfl (vs := dcs ⟨s1, sf1, rm1, fu1, dn1⟩) rfl (dcs_one _) (us := dcs ⟨s, safe, room, fuse, false⟩) rfl B13 ?_; intro w4 N4 m4; have B24 := B23.mod m4 (by simp); have hb4 := mod_two hb3 m4 (Nat.le_refl _) (by omega); have hs4 := m4.size)
    | (refine wpList_rowLoad row_dk rfl (.tmp 1) rfl rfl (vs := dcs ⟨s1, sf1, rm1, fu1, dn1⟩) rfl N4 ?_)
    | (refine wpList_rowStore row_dk rfl rfl (.tmp 2) (.tmp 15) rfl rfl rfl (vs := dcs ⟨s1, sf1, rm1, fu1, dn1⟩) rfl (dcs_one _) (us := dcs ⟨[], 0, 0, 0, false⟩) rfl B24 ?_; intro w5 N5 m5))
   have hb5 := mod_two hb4 m5 (by omega) (by omega)
   refine bodyPost_ret (res_dk2 rfl _ _ ⟨s1, sf1, rm1, fu1, dn1⟩ _ rfl N5) rfl ?_
   rw [HR.out]
   exact ⟨rfl, hb5⟩
 ·have HR : Hid (R = (⟨s, safe, room, fuse, true⟩, 311)) := Lib.hid (by rw [HS.out]; rfl)
  clear HS hbs hbf q1
  go_enter Tryz.func142, Tryz.ntmps142
  go_wp2_with fail
  refine bodyPost_ret (res_dk2 rfl _ _ ⟨s, safe, room, fuse, true⟩ _ rfl (Blk.new' (by simp))) rfl ?_
  rw [HR.out]
  exact ⟨rfl, Below.allocS (Below.allocS (Below.refl _ _) _) _⟩
theorem rappend_any (d : Dk) (t : Bs) (hf : -9223372036854775807 ≤ d.fuse ∧ d.fuse ≤ 9223372036854775807) (hrm : 0 ≤ d.room ∧ d.room ≤ 1048576) (hsl : d.s.length ≤ 1048576) (htl : t.length ≤ 100000000) (w : World) :
  Calls Tryz.prog 169 #[dv d, .string ⟨List.toArray t⟩] w fun e w' => e = .returned (.tuple #[dv (appD d t).1, .int .i64 ((appD d t).2)]) ∧ Below w.heap.size w w' := by
 have q1 := fun W => rburnt_any d hf W
 have hbf := burnt_flag d
 have HS : Hid (appD d t = if d.down then (d, 311) else if d.room - (d.s.length : Int) < (t.length : Int) then (d, 310) else if (burntD d).2 = 0 then (⟨d.s ++ t, d.safe, d.room, (burntD d).1.fuse, d.down⟩, 0) else burntD d) := Lib.hid rfl
 have hbs := fun h0 => burnt_same (d := d) h0
 generalize appD d t = R at *
 generalize burntD d = x at *
 obtain ⟨⟨s1, sf1, rm1, fu1, dn1⟩, c1⟩ := x
 obtain ⟨s, safe, room, fuse, down⟩ := d
 simp only at q1 hbf hbs hf hrm hsl
 cases down
 ·have HBS := Lib.hid hbs
  have HBF := Lib.hid hbf
  obtain ⟨B1, B2, hb2⟩ := two_blk w ⟨s, safe, room, fuse, false⟩
  clear hbs hbf
  by_cases hsp : room - (s.length : Int) < (t.length : Int)
  ·have g1 : decide (room < (s.length : Int) + (t.length : Int)) = true := by simp; omega
   have w1 : IntKind.i64.wrap ((s.length : Int) + (t.length : Int)) = (s.length : Int) + (t.length : Int) := by rw [IntKind.wrap_i64]; omega
   have HR : Hid (R = (⟨s, safe, room, fuse, false⟩, 310)) := Lib.hid (by rw [HS.out, if_neg (by simp), if_pos hsp])
   clear HS HBS HBF q1 hsp B1 B2 hb2
   go_enter Tryz.func169, Tryz.ntmps169
   go_wp2_with fail
   refine bodyPost_ret (res_dk2 rfl _ _ ⟨s, safe, room, fuse, false⟩ _ rfl (Blk.new' (by simp))) rfl ?_
   rw [HR.out]
   exact ⟨rfl, Below.allocS (Below.allocS (Below.refl _ _) _) _⟩
  have g1 : decide (room < (s.length : Int) + (t.length : Int)) = false := by simp; omega
  have w1 : IntKind.i64.wrap ((s.length : Int) + (t.length : Int)) = (s.length : Int) + (t.length : Int) := by rw [IntKind.wrap_i64]; omega
  have HSP := Lib.hid hsp
  clear hsp
  go_enter Tryz.func169, Tryz.ntmps169
  go_wp2_with fail
  refine (q1 _).mono ?_
  rintro e w3 ⟨rfl, hb⟩
  have B13 := B1.keep hb
  have B23 := B2.keep hb
  have hb3 := hb2.trans (hb.mono hb2.size)
  have hs3 : w.heap.size + 2 ≤ w3.heap.size := by have := hb.size; simp at this; exact this
  clear q1 B1 B2 hb hb2
  by_cases h0 : c1 = 0
  ·subst h0
   obtain ⟨e1, e2, e3, e4⟩ := HBS.out rfl
   subst e1 e2 e3 e4
   have hcat : ¬ 9223372036854775807 < s1.length + t.length := by omega
   have HR : Hid (R = (⟨s1 ++ t, sf1, rm1, fu1, false⟩, 0)) := Lib.hid (by rw [HS.out, if_neg (by simp), if_neg (by have := HSP.out; omega)]; simp)
   clear HS HBS HBF
   go_wp2_with (first
    | (refine wpList_rowStore row_dk rfl rfl (.tmp 2) (.tmp 23) rfl rfl rfl (vs := dcs ⟨s1, sf1, rm1, fu1, false⟩) rfl (dcs_one _) (us := dcs ⟨s1, sf1, rm1, fuse, false⟩) rfl B13 ?_; intro w4 N4 m4; have B24 := B23.mod m4 (by simp); have hb4 := mod_two hb3 m4 (Nat.le_refl _) (by omega); have hs4 := m4.size; obtain ⟨n1, n2, n3⟩ := id N4)
    | (refine wpList_rowLoad row_dk rfl (.tmp 2) rfl rfl (vs := dcs ⟨s1 ++ t, sf1, rm1, fu1, false⟩) rfl (by simpa using N4.set 0 (.string ⟨List.toArray (s1 ++ t)⟩)) ?_)
    | (refine wpList_rowStore row_dk rfl rfl (.tmp 4) (.tmp 33) rfl rfl rfl (vs := dcs ⟨s1 ++ t, sf1, rm1, fu1, false⟩) rfl (dcs_one _) (us := dcs ⟨[], 0, 0, 0, false⟩) rfl (B24.other (a := ⟨w.heap.size, 0, none⟩) (by simp) _) ?_; intro w5 N5 m5))
   have hm4 := (Mod.refl [w.heap.size] w4).setCell (p := ⟨w.heap.size, 0, none⟩) (.inl (by simp)) (.string ⟨List.toArray (s1 ++ t)⟩)
   have hb5 := mod_two (mod_two hb4 hm4 (Nat.le_refl _) (by omega)) m5 (by omega) (by have := hm4.size; omega)
   refine bodyPost_ret (res_dk2 rfl _ _ ⟨s1 ++ t, sf1, rm1, fu1, false⟩ _ rfl N5) rfl ?_
   rw [HR.out]
   exact ⟨rfl, hb5⟩
  ·have hc : c1 = 311 := (HBF.out.resolve_left h0).1
   subst hc
   have HR : Hid (R = (⟨s1, sf1, rm1, fu1, dn1⟩, 311)) := Lib.hid (by rw [HS.out]; rw [if_neg (by simp), if_neg (by have := HSP.out; omega)]; simp)
   clear HS HBS HBF h0
   go_wp2_with (first
    | (refine wpList_rowStore row_dk rfl rfl (.tmp 2) (.tmp 23) rfl rfl rfl (vs := dcs ⟨s1, sf1, rm1, fu1, dn1⟩) rfl (dcs_one _) (us := dcs ⟨s, safe, room, fuse, false⟩) rfl B13 ?_; intro w4 N4 m4; have B24 := B23.mod m4 (by simp); have hb4 := mod_two hb3 m4 (Nat.le_refl _) (by omega); have hs4 := m4.size)
    | (refine wpList_rowLoad row_dk rfl (.tmp 2) rfl rfl (vs := dcs ⟨s1, sf1, rm1, fu1, dn1⟩) rfl N4 ?_)
    | (refine wpList_rowStore row_dk rfl rfl (.tmp 4) (.tmp 27) rfl rfl rfl (vs := dcs ⟨s1, sf1, rm1, fu1, dn1⟩) rfl (dcs_one _) (us := dcs ⟨[], 0, 0, 0, false⟩) rfl B24 ?_; intro w5 N5 m5))
   have hb5 := mod_two hb4 m5 (by omega) (by omega)
   refine bodyPost_ret (res_dk2 rfl _ _ ⟨s1, sf1, rm1, fu1, dn1⟩ _ rfl N5) rfl ?_
   rw [HR.out]
   exact ⟨rfl, hb5⟩
 ·have HR : Hid (R = (⟨s, safe, room, fuse, true⟩, 311)) := Lib.hid (by rw [HS.out]; rfl)
  clear HS hbs hbf q1
  go_enter Tryz.func169, Tryz.ntmps169
  go_wp2_with fail
  refine bodyPost_ret (res_dk2 rfl _ _ ⟨s, safe, room, fuse, true⟩ _ rfl (Blk.new' (by simp))) rfl ?_
  rw [HR.out]
  exact ⟨rfl, Below.allocS (Below.allocS (Below.refl _ _) _) _⟩
theorem rcut_any (d : Dk) (n : Nat) (hn : n ≤ d.s.length) (hf : -9223372036854775807 ≤ d.fuse ∧ d.fuse ≤ 9223372036854775807) (hsl : d.s.length ≤ 1048576) (w : World) :
  Calls Tryz.prog 141 #[dv d, .int .i64 ((n : Int))] w fun e w' => e = .returned (.tuple #[dv (cutD d n).1, .int .i64 ((cutD d n).2)]) ∧ Below w.heap.size w w' := by
 have q1 := fun W => rburnt_any d hf W
 have hbf := burnt_flag d
 have HS : Hid (cutD d n = if d.down then (d, 311) else if (burntD d).2 = 0 then (⟨d.s.take n, min d.safe (n : Int), d.room, (burntD d).1.fuse, d.down⟩, 0) else burntD d) := Lib.hid rfl
 have hbs := fun h0 => burnt_same (d := d) h0
 generalize cutD d n = R at *
 generalize burntD d = x at *
 obtain ⟨⟨s1, sf1, rm1, fu1, dn1⟩, c1⟩ := x
 obtain ⟨s, safe, room, fuse, down⟩ := d
 simp only at q1 hbf hbs hf hn hsl
 cases down
 ·have HBS := Lib.hid hbs
  have HBF := Lib.hid hbf
  obtain ⟨B1, B2, hb2⟩ := two_blk w ⟨s, safe, room, fuse, false⟩
  clear hbs hbf
  have g1 : decide ((n : Int) < 0) = false := by simp
  have g2 : decide ((s.length : Int) < (n : Int)) = false := by simp; omega
  have g3 : (0 : Int) ≤ (n : Int) ∧ (n : Int) ≤ (s.length : Int) := by omega
  go_enter Tryz.func141, Tryz.ntmps141
  go_wp2_with fail
  refine (q1 _).mono ?_
  rintro e w3 ⟨rfl, hb⟩
  have B13 := B1.keep hb
  have B23 := B2.keep hb
  have hb3 := hb2.trans (hb.mono hb2.size)
  have hs3 : w.heap.size + 2 ≤ w3.heap.size := by have := hb.size; simp at this; exact this
  clear q1 B1 B2 hb hb2
  by_cases h0 : c1 = 0
  ·subst h0
   obtain ⟨e1, e2, e3, e4⟩ := HBS.out rfl
   subst e1 e2 e3 e4
   by_cases hsf : (n : Int) < sf1
   ·have k1 : decide ((n : Int) < sf1) = true := by simpa using hsf
    have HR : Hid (R = (⟨s1.take n, (n : Int), rm1, fu1, false⟩, 0)) := Lib.hid (by rw [HS.out, if_neg (by simp), if_pos rfl, show min sf1 (n : Int) = n from by omega])
    clear HS HBS HBF
    go_wp2_with (first
     | (refine wpList_rowStore row_dk rfl rfl (.tmp 2) (.tmp 23) rfl rfl rfl (vs := dcs ⟨s1, sf1, rm1, fu1, false⟩) rfl (dcs_one _) (us := dcs ⟨s1, sf1, rm1, fuse, false⟩) rfl B13 ?_; intro w4 N4 m4; have B24 := B23.mod m4 (by simp); have hb4 := mod_two hb3 m4 (Nat.le_refl _) (by omega); have hs4 := m4.size; obtain ⟨n1, n2, n3⟩ := id N4)
     | (refine wpList_rowLoad row_dk rfl (.tmp 2) rfl rfl (vs := dcs ⟨s1.take n, (n : Int), rm1, fu1, false⟩) rfl (by simpa using (N4.set 0 (.string ⟨List.toArray (s1.take n)⟩)).set 1 (.int .i64 ((n : Int)))) ?_)
     | (refine wpList_rowStore row_dk rfl rfl (.tmp 4) (.tmp 39) rfl rfl rfl (vs := dcs ⟨s1.take n, (n : Int), rm1, fu1, false⟩) rfl (dcs_one _) (us := dcs ⟨[], 0, 0, 0, false⟩) rfl ((B24.other (a := ⟨w.heap.size, 0, none⟩) (by simp) _).other (a := ⟨w.heap.size, 1, none⟩) (by simp) _) ?_; intro w5 N5 m5))
    have hm4 := ((Mod.refl [w.heap.size] w4).setCell (p := ⟨w.heap.size, 0, none⟩) (.inl (by simp)) (.string ⟨List.toArray (s1.take n)⟩)).setCell (p := ⟨w.heap.size, 1, none⟩) (.inl (by simp)) (.int .i64 ((n : Int)))
    have hb5 := mod_two (mod_two hb4 hm4 (Nat.le_refl _) (by omega)) m5 (by omega) (by have := hm4.size; omega)
    refine bodyPost_ret (res_dk2 rfl _ _ ⟨s1.take n, (n : Int), rm1, fu1, false⟩ _ rfl N5) rfl ?_
    rw [HR.out]
    exact ⟨rfl, hb5⟩
   ·have k1 : decide ((n : Int) < sf1) = false := by simpa using hsf
    have HR : Hid (R = (⟨s1.take n, sf1, rm1, fu1, false⟩, 0)) := Lib.hid (by rw [HS.out, if_neg (by simp), if_pos rfl, show min sf1 (n : Int) = sf1 from by omega])
    clear HS HBS HBF
    go_wp2_with (first
     | (refine wpList_rowStore row_dk rfl rfl (.tmp 2) (.tmp 23) rfl rfl rfl (vs := dcs ⟨s1, sf1, rm1, fu1, false⟩) rfl (dcs_one _) (us := dcs ⟨s1, sf1, rm1, fuse, false⟩) rfl B13 ?_; intro w4 N4 m4; have B24 := B23.mod m4 (by simp); have hb4 := mod_two hb3 m4 (Nat.le_refl _) (by omega); have hs4 := m4.size; obtain ⟨n1, n2, n3⟩ := id N4)
     | (refine wpList_rowLoad row_dk rfl (.tmp 2) rfl rfl (vs := dcs ⟨s1.take n, sf1, rm1, fu1, false⟩) rfl (by simpa using N4.set 0 (.string ⟨List.toArray (s1.take n)⟩)) ?_)
     | (refine wpList_rowStore row_dk rfl rfl (.tmp 4) (.tmp 39) rfl rfl rfl (vs := dcs ⟨s1.take n, sf1, rm1, fu1, false⟩) rfl (dcs_one _) (us := dcs ⟨[], 0, 0, 0, false⟩) rfl (B24.other (a := ⟨w.heap.size, 0, none⟩) (by simp) _) ?_; intro w5 N5 m5))
    have hm4 := (Mod.refl [w.heap.size] w4).setCell (p := ⟨w.heap.size, 0, none⟩) (.inl (by simp)) (.string ⟨List.toArray (s1.take n)⟩)
    have hb5 := mod_two (mod_two hb4 hm4 (Nat.le_refl _) (by omega)) m5 (by omega) (by have := hm4.size; omega)
    refine bodyPost_ret (res_dk2 rfl _ _ ⟨s1.take n, sf1, rm1, fu1, false⟩ _ rfl N5) rfl ?_
    rw [HR.out]
    exact ⟨rfl, hb5⟩
  ·have hc : c1 = 311 := (HBF.out.resolve_left h0).1
   subst hc
   have HR : Hid (R = (⟨s1, sf1, rm1, fu1, dn1⟩, 311)) := Lib.hid (by rw [HS.out]; simp)
   clear HS HBS HBF h0
   go_wp2_with (first
    | (refine wpList_rowStore row_dk rfl rfl (.tmp 2) (.tmp 23) rfl rfl rfl (vs := dcs ⟨s1, sf1, rm1, fu1, dn1⟩) rfl (dcs_one _) (us := dcs ⟨s, safe, room, fuse, false⟩) rfl B13 ?_; intro w4 N4 m4; have B24 := B23.mod m4 (by simp); have hb4 := mod_two hb3 m4 (Nat.le_refl _) (by omega); have hs4 := m4.size)
    | (refine wpList_rowLoad row_dk rfl (.tmp 2) rfl rfl (vs := dcs ⟨s1, sf1, rm1, fu1, dn1⟩) rfl N4 ?_)
    | (refine wpList_rowStore row_dk rfl rfl (.tmp 4) (.tmp 27) rfl rfl rfl (vs := dcs ⟨s1, sf1, rm1, fu1, dn1⟩) rfl (dcs_one _) (us := dcs ⟨[], 0, 0, 0, false⟩) rfl B24 ?_; intro w5 N5 m5))
   have hb5 := mod_two hb4 m5 (by omega) (by omega)
   refine bodyPost_ret (res_dk2 rfl _ _ ⟨s1, sf1, rm1, fu1, dn1⟩ _ rfl N5) rfl ?_
   rw [HR.out]
   exact ⟨rfl, hb5⟩
 ·have HR : Hid (R = (⟨s, safe, room, fuse, true⟩, 311)) := Lib.hid (by rw [HS.out]; rfl)
  clear HS hbs hbf q1
  go_enter Tryz.func141, Tryz.ntmps141
  go_wp2_with fail
  refine bodyPost_ret (res_dk2 rfl _ _ ⟨s, safe, room, fuse, true⟩ _ rfl (Blk.new' (by simp))) rfl ?_
  rw [HR.out]
  exact ⟨rfl, Below.allocS (Below.allocS (Below.refl _ _) _) _⟩
theorem rfuse_any (d : Dk) (n : Int) (w : World) :
  Calls Tryz.prog 41 #[dv d, .int .i64 n] w fun e w' => e = .returned (dv (fuseD d n)) ∧ Below w.heap.size w w' := by
 obtain ⟨s, safe, room, fuse, down⟩ := d
 by_cases h : n < -1
 ·have d1 : decide (n < -1) = true := by simpa using h
  have HR : Hid (fuseD ⟨s, safe, room, fuse, down⟩ n = ⟨s, safe, room, -1, down⟩) := Lib.hid (by unfold fuseD; rw [show max n (-1) = -1 from by omega])
  clear h
  go_enter Tryz.func41, Tryz.ntmps41
  go_wp2_with fail
  refine bodyPost_ret (res_dk1 rfl _ _ ⟨s, safe, room, -1, down⟩ _ rfl (Blk.new' (by simp))) rfl ?_
  rw [HR.out]
  exact ⟨rfl, Below.allocS (Below.allocS (Below.refl _ _) _) _⟩
 ·have d1 : decide (n < -1) = false := by simpa using h
  have HR : Hid (fuseD ⟨s, safe, room, fuse, down⟩ n = ⟨s, safe, room, n, down⟩) := Lib.hid (by unfold fuseD; rw [show max n (-1) = n from by omega])
  clear h
  go_enter Tryz.func41, Tryz.ntmps41
  go_wp2_with fail
  refine bodyPost_ret (res_dk1 rfl _ _ ⟨s, safe, room, n, down⟩ _ rfl (Blk.new' (by simp))) rfl ?_
  rw [HR.out]
  exact ⟨rfl, Below.allocS (Below.allocS (Below.refl _ _) _) _⟩
theorem rnewd_any (room : Int) (h0 : 0 ≤ room) (h1 : room ≤ 1048576) (w : World) :
  Calls Tryz.prog 36 #[.int .i64 room] w fun e w' => e = .returned (.tuple #[dv ⟨[], 0, room, -1, false⟩, .int .i64 0]) ∧ Below w.heap.size w w' := by
 have d1 : decide (room < 0) = false := by simp; omega
 have d2 : decide (1048576 < room) = false := by simp; omega
 clear h0 h1
 go_enter Tryz.func36, Tryz.ntmps36
 go_wp2_with fail
 refine bodyPost_ret (res_dk2 rfl _ _ ⟨[], 0, room, -1, false⟩ _ rfl (Blk.new' (by simp))) rfl ?_
 exact ⟨rfl, Below.allocS (Below.refl _ _) _⟩
theorem rcrash_any (d : Dk) (keep : Int) (hkp : -9223372036854775808 ≤ keep ∧ keep ≤ 9223372036854775807) (hs : 0 ≤ d.safe ∧ d.safe ≤ (d.s.length : Int)) (hsl : d.s.length ≤ 1048576) (w : World) :
  Calls Tryz.prog 42 #[dv d, .int .i64 keep] w fun e w' => e = .returned (dv (crashD d keep)) ∧ Below w.heap.size w w' := by
 obtain ⟨s, safe, room, fuse, down⟩ := d
 simp only at hs hsl
 have w1 : IntKind.i64.wrap ((s.length : Int) - safe) = (s.length : Int) - safe := by rw [IntKind.wrap_i64]; omega
 obtain ⟨sf, rfl⟩ : ∃ sf : Nat, safe = sf := ⟨safe.toNat, by omega⟩
 have hsfl : sf ≤ s.length := by omega
 have hC : ∀ n : Nat, (n : Int) = (sf : Int) + min (max keep 0) ((s.length : Int) - (sf : Int)) → crashD ⟨s, (sf : Int), room, fuse, down⟩ keep = ⟨s.take n, (n : Int), room, -1, false⟩ := fun n hn => by
  unfold crashD crashN
  simp only
  rw [← hn]
  rfl
 by_cases h0 : keep < 0
 ·have d1 : decide (keep < 0) = true := by simpa using h0
  by_cases h2 : sf < s.length
  ·have d2 : decide (sf < s.length) = true := by simpa using h2
   have d3 : decide ((0 : Int) < (s.length : Int) - (sf : Int)) = true := by simp; omega
   have HR := Lib.hid (hC sf (by omega))
   have e1 : IntKind.i64.wrap (sf : Int) = (sf : Int) := by rw [IntKind.wrap_i64]; omega
   have e2 : (0 : Int) ≤ (sf : Int) ∧ (sf : Int) ≤ (s.length : Int) := by omega
   have htl : (s.take sf).length = sf := by rw [List.length_take]; omega
   have hml : min sf s.length = sf := by omega
   clear h0 h2 hC hkp hs w1
   have w1 : IntKind.i64.wrap ((s.length : Int) - (sf : Int)) = (s.length : Int) - (sf : Int) := by rw [IntKind.wrap_i64]; omega
   go_enter Tryz.func42, Tryz.ntmps42
   go_wp2_with fail
   refine bodyPost_ret (res_dk1 rfl _ _ ⟨s.take sf, (sf : Int), room, -1, false⟩ _ rfl (Blk.new' (by simp))) rfl ?_
   rw [HR.out]
   exact ⟨rfl, Below.allocS (Below.allocS (Below.refl _ _) _) _⟩
  ·have d2 : decide (sf < s.length) = false := by simpa using h2
   have d3 : decide ((0 : Int) < (s.length : Int) - (sf : Int)) = false := by simp; omega
   have HR := Lib.hid (hC s.length (by omega))
   rw [List.take_length] at HR
   clear h0 h2 hC hkp hs
   go_enter Tryz.func42, Tryz.ntmps42
   go_wp2_with fail
   refine bodyPost_ret (res_dk1 rfl _ _ ⟨s, (s.length : Int), room, -1, false⟩ _ rfl (Blk.new' (by simp))) rfl ?_
   rw [HR.out]
   exact ⟨rfl, Below.allocS (Below.allocS (Below.refl _ _) _) _⟩
 ·have d1 : decide (keep < 0) = false := by simpa using h0
  obtain ⟨k, rfl⟩ : ∃ k : Nat, keep = k := ⟨keep.toNat, by omega⟩
  by_cases h2 : (k : Int) < (s.length : Int) - (sf : Int)
  ·have d3 : decide ((k : Int) < (s.length : Int) - (sf : Int)) = true := by simpa using h2
   have HR := Lib.hid (hC (sf + k) (by omega))
   have e1 : IntKind.i64.wrap ((sf : Int) + (k : Int)) = ((sf + k : Nat) : Int) := by rw [IntKind.wrap_i64]; omega
   have e2 : (0 : Int) ≤ ((sf + k : Nat) : Int) ∧ ((sf + k : Nat) : Int) ≤ (s.length : Int) := by omega
   have hml : min (sf + k) s.length = sf + k := by omega
   generalize hsk : sf + k = n at *
   clear h0 h2 hC hkp hs hsk
   go_enter Tryz.func42, Tryz.ntmps42
   go_wp2_with fail
   refine bodyPost_ret (res_dk1 rfl _ _ ⟨s.take n, (n : Int), room, -1, false⟩ _ rfl (Blk.new' (by simp))) rfl ?_
   rw [HR.out]
   exact ⟨rfl, Below.allocS (Below.allocS (Below.refl _ _) _) _⟩
  ·have d3 : decide ((k : Int) < (s.length : Int) - (sf : Int)) = false := by simpa using h2
   have HR := Lib.hid (hC s.length (by omega))
   rw [List.take_length] at HR
   clear h0 h2 hC hkp hs
   go_enter Tryz.func42, Tryz.ntmps42
   go_wp2_with fail
   refine bodyPost_ret (res_dk1 rfl _ _ ⟨s, (s.length : Int), room, -1, false⟩ _ rfl (Blk.new' (by simp))) rfl ?_
   rw [HR.out]
   exact ⟨rfl, Below.allocS (Below.allocS (Below.refl _ _) _) _⟩
end Go.Proofs.YthgjdaomcpinaaaGreatDoor
namespace Go.Proofs.YthgjdaomcpinaaaGreatDoor
open Go.RowKit Pl
namespace Pl
theorem lGo_step (each : Int) (n : Nat) (s : Bs) (h : (tx s each).2.2 = 0) : lGo each (n + 1) s = ((tx s each).1 :: (lGo each n (tx s each).2.1).1, (lGo each n (tx s each).2.1).2) := by
 rw [lGo, if_neg (by simpa using h)]
theorem lGo_bad (each : Int) (n : Nat) (s : Bs) (h : (tx s each).2.2 ≠ 0) : (lGo each (n + 1) s).2.2 = (tx s each).2.2 := by
 rw [lGo, if_pos h]
end Pl
end Go.Proofs.YthgjdaomcpinaaaGreatDoor
