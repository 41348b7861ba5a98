/- HeadC. -/
import Derived.Test.YthgjdaomcpinaaaGreatDoorMp8
set_option linter.unnecessarySimpa false
set_option linter.unusedSimpArgs false
set_option linter.unusedVariables false
set_option maxRecDepth 100000
set_option maxHeartbeats 32000000
namespace Go.Proofs.YthgjdaomcpinaaaGreatDoor
open Go.RowKit Go.Shelf Pl
theorem hd_sum (s : Bs) (w : World) : Calls Tryz.prog 148 #[.string ⟨List.toArray s⟩] w fun e w' => e = .returned (.bool (decide (s.length = 32))) ∧ w' = w := by
 by_cases h : s.length = 32
 ·have h1 : decide (s.length = 32) = true := by simpa using h
  have h2 : ((s.length : Int) == 32) = true := by simp; omega
  have h3 : decide ((s.length : Int) = 32) = true := by simp; omega
  rw [h1]
  clear h1
  go_enter Tryz.func148, Tryz.ntmps148
  go_wp2_with fail
  go_ret
  exact ⟨by first | rfl | (exact ret_bool (by simp; omega)), rfl⟩
 ·have h1 : decide (s.length = 32) = false := by simpa using h
  have h2 : ((s.length : Int) == 32) = false := by simp; omega
  have h3 : decide ((s.length : Int) = 32) = false := by simp; omega
  rw [h1]
  clear h1
  go_enter Tryz.func148, Tryz.ntmps148
  go_wp2_with fail
  go_ret
  exact ⟨by first | rfl | (exact ret_bool (by simp; omega)), rfl⟩
theorem hd_maybe (s : Bs) (w : World) : Calls Tryz.prog 151 #[.string ⟨List.toArray s⟩] w fun e w' => e = .returned (.bool (may32 s)) ∧ w' = w := by
 have hs := fun W => hd_sum s W
 unfold may32
 by_cases h : s = []
 ·subst h
  go_enter Tryz.func151, Tryz.ntmps151
  go_wp2_with fail
  go_ret
  exact ⟨rfl, rfl⟩
 ·have h1 : decide (s = []) = false := by simpa using h
  have h2 : s.isEmpty = false := by simpa using h
  have h3 : (s == []) = false := by simpa using h
  rw [h1, Bool.false_or]
  clear h1 h
  generalize decide (s.length = 32) = x at *
  go_enter Tryz.func151, Tryz.ntmps151
  go_wp2_with fail
  refine (hs _).mono ?_
  rintro e w1 ⟨rfl, rfl⟩
  go_wp2_with fail
  go_ret
  exact ⟨rfl, rfl⟩
theorem hd_in (n most : Int) (w : World) : Calls Tryz.prog 147 #[.int .i64 n, .int .i64 most] w fun e w' => e = .returned (.bool (inH n most)) ∧ w' = w := by
 unfold inH
 by_cases h : 0 ≤ n
 ·have h1 : decide (0 ≤ n) = true := by simpa using h
  rw [h1, Bool.true_and]
  clear h
  by_cases h2 : n ≤ most
  ·have h3 : decide (n ≤ most) = true := by simpa using h2
   rw [h3]
   clear h2
   go_enter Tryz.func147, Tryz.ntmps147
   go_wp2_with fail
   go_ret
   exact ⟨rfl, rfl⟩
  ·have h3 : decide (n ≤ most) = false := by simpa using h2
   rw [h3]
   clear h2
   go_enter Tryz.func147, Tryz.ntmps147
   go_wp2_with fail
   go_ret
   exact ⟨rfl, rfl⟩
 ·have h1 : decide (0 ≤ n) = false := by simpa using h
  rw [h1, Bool.false_and]
  clear h
  go_enter Tryz.func147, Tryz.ntmps147
  go_wp2_with fail
  go_ret
  exact ⟨rfl, rfl⟩
theorem hd_numbers (a1 a2 a3 : Int) (lb : Bool) (pa st rc tx me ne : Bs) (sk : Value) (w : World) :
  Calls Tryz.prog 118 #[.agg #[.int .i64 a1, .int .i64 a2, .int .i64 a3, .bool lb, .string ⟨List.toArray pa⟩, .string ⟨List.toArray st⟩, .string ⟨List.toArray rc⟩, .string ⟨List.toArray tx⟩, .string ⟨List.toArray me⟩, .string ⟨List.toArray ne⟩, sk]] w fun e w' => e = .returned (.bool (inH a1 1048576 && inH a2 1048576 && inH a3 1048576)) ∧ Below w.heap.size w w' := by
 have hb0 : Below w.heap.size w (w.alloc (.cells #[.int .i64 a1, .int .i64 a2, .int .i64 a3, .bool lb, .string ⟨List.toArray pa⟩, .string ⟨List.toArray st⟩, .string ⟨List.toArray rc⟩, .string ⟨List.toArray tx⟩, .string ⟨List.toArray me⟩, .string ⟨List.toArray ne⟩, sk] 24)) := Below.allocS (Below.refl _ _) _
 have B0 : Blk (w.alloc (.cells #[.int .i64 a1, .int .i64 a2, .int .i64 a3, .bool lb, .string ⟨List.toArray pa⟩, .string ⟨List.toArray st⟩, .string ⟨List.toArray rc⟩, .string ⟨List.toArray tx⟩, .string ⟨List.toArray me⟩, .string ⟨List.toArray ne⟩, sk] 24)) w.heap.size #[.int .i64 a1, .int .i64 a2, .int .i64 a3, .bool lb, .string ⟨List.toArray pa⟩, .string ⟨List.toArray st⟩, .string ⟨List.toArray rc⟩, .string ⟨List.toArray tx⟩, .string ⟨List.toArray me⟩, .string ⟨List.toArray ne⟩, sk] := Blk.new _ _ _
 obtain ⟨b1, b2, b3⟩ := id B0
 have q1 := fun W => hd_in a1 1048576 W
 have q2 := fun W => hd_in a2 1048576 W
 have q3 := fun W => hd_in a3 1048576 W
 generalize inH a1 1048576 = x1 at *
 generalize inH a2 1048576 = x2 at *
 generalize inH a3 1048576 = x3 at *
 clear B0
 cases x1
 ·go_enter Tryz.func118, Tryz.ntmps118
  go_wp2_with fail
  refine (q1 _).mono ?_
  rintro e w1 ⟨rfl, rfl⟩
  go_wp2_with fail
  go_ret
  exact ⟨rfl, hb0⟩
 ·cases x2
  ·go_enter Tryz.func118, Tryz.ntmps118
   go_wp2_with fail
   refine (q1 _).mono ?_
   rintro e w1 ⟨rfl, rfl⟩
   go_wp2_with fail
   refine (q2 _).mono ?_
   rintro e w1 ⟨rfl, rfl⟩
   go_wp2_with fail
   go_ret
   exact ⟨rfl, hb0⟩
  ·go_enter Tryz.func118, Tryz.ntmps118
   go_wp2_with fail
   refine (q1 _).mono ?_
   rintro e w1 ⟨rfl, rfl⟩
   go_wp2_with fail
   refine (q2 _).mono ?_
   rintro e w1 ⟨rfl, rfl⟩
   go_wp2_with fail
   refine (q3 _).mono ?_
   rintro e w1 ⟨rfl, rfl⟩
   go_wp2_with fail
   go_ret
   exact ⟨rfl, hb0⟩
theorem hd_first (a1 a2 a3 : Int) (lb : Bool) (pa st rc tx me ne : Bs) (K : List Bs) (sk : Value) (w : World) :
  Calls Tryz.prog 119 #[.agg #[.int .i64 a1, .int .i64 a2, .int .i64 a3, .bool lb, .string ⟨List.toArray pa⟩, .string ⟨List.toArray st⟩, .string ⟨List.toArray rc⟩, .string ⟨List.toArray tx⟩, .string ⟨List.toArray me⟩, .string ⟨List.toArray ne⟩, sk]] w fun e w' => e = .returned (.bool (firstH ⟨a1, a2, a3, lb, pa, st, rc, tx, me, ne, K⟩)) ∧ Below w.heap.size w w' := by
 have hb0 : Below w.heap.size w (w.alloc (.cells #[.int .i64 a1, .int .i64 a2, .int .i64 a3, .bool lb, .string ⟨List.toArray pa⟩, .string ⟨List.toArray st⟩, .string ⟨List.toArray rc⟩, .string ⟨List.toArray tx⟩, .string ⟨List.toArray me⟩, .string ⟨List.toArray ne⟩, sk] 24)) := Below.allocS (Below.refl _ _) _
 have B0 : Blk (w.alloc (.cells #[.int .i64 a1, .int .i64 a2, .int .i64 a3, .bool lb, .string ⟨List.toArray pa⟩, .string ⟨List.toArray st⟩, .string ⟨List.toArray rc⟩, .string ⟨List.toArray tx⟩, .string ⟨List.toArray me⟩, .string ⟨List.toArray ne⟩, sk] 24)) w.heap.size #[.int .i64 a1, .int .i64 a2, .int .i64 a3, .bool lb, .string ⟨List.toArray pa⟩, .string ⟨List.toArray st⟩, .string ⟨List.toArray rc⟩, .string ⟨List.toArray tx⟩, .string ⟨List.toArray me⟩, .string ⟨List.toArray ne⟩, sk] := Blk.new _ _ _
 obtain ⟨b1, b2, b3⟩ := id B0
 clear B0
 unfold firstH
 simp only
 by_cases h1 : 0 < a1
 ·have q1 := fun W => hd_sum pa W
  have d1 : decide (0 < a1) = true := by simpa using h1
  rw [if_pos h1]
  clear h1
  generalize decide (pa.length = 32) = x1 at *
  go_enter Tryz.func119, Tryz.ntmps119
  go_wp2_with fail
  refine (q1 _).mono ?_
  rintro e w1 ⟨rfl, rfl⟩
  go_wp2_with fail
  go_ret
  exact ⟨rfl, hb0⟩
 ·have d1 : decide (0 < a1) = false := by simpa using h1
  rw [if_neg h1]
  clear h1
  by_cases h2 : pa = []
  ·subst h2
   by_cases h3 : a2 = 0
   ·subst h3
    by_cases h4 : a3 = 0
    ·subst h4
     simp only [decide_true, Bool.true_and]
     go_enter Tryz.func119, Tryz.ntmps119
     go_wp2_with fail
     go_ret
     exact ⟨rfl, hb0⟩
    ·have e1 : (a3 == 0) = false := by simpa using h4
     have e2 : decide (a3 = 0) = false := by simpa using h4
     rw [e2, Bool.and_false, Bool.false_and]
     clear h4
     go_enter Tryz.func119, Tryz.ntmps119
     go_wp2_with fail
     go_ret
     exact ⟨rfl, hb0⟩
   ·have e1 : (a2 == 0) = false := by simpa using h3
    have e2 : decide (a2 = 0) = false := by simpa using h3
    rw [e2, Bool.and_false, Bool.false_and, Bool.false_and]
    clear h3
    go_enter Tryz.func119, Tryz.ntmps119
    go_wp2_with fail
    go_ret
    exact ⟨rfl, hb0⟩
  ·have e1 : decide (pa = []) = false := by simpa using h2
   have e2 : pa.isEmpty = false := by simpa using h2
   have e3 : (pa == []) = false := by simpa using h2
   rw [e1, Bool.false_and, Bool.false_and, Bool.false_and]
   clear h2
   go_enter Tryz.func119, Tryz.ntmps119
   go_wp2_with fail
   go_ret
   exact ⟨rfl, hb0⟩
def oddS (l : List Bs) : Bool := l.any (fun s => !decide (s.length = 32))
theorem odd_all (l : List Bs) : (!oddS l) = l.all (fun s => decide (s.length = 32)) := by
 unfold oddS
 rw [List.not_any_eq_all_not]
 simp
theorem hd_odd (s : Bs) (w : World) : Calls Tryz.prog 149 #[.string ⟨List.toArray s⟩] w fun e w' => e = .returned (.bool (!decide (s.length = 32))) ∧ w' = w := by
 have q1 := fun W => hd_sum s W
 generalize decide (s.length = 32) = x at *
 go_enter Tryz.func149, Tryz.ntmps149
 go_wp2_with fail
 refine (q1 _).mono ?_
 rintro e w1 ⟨rfl, rfl⟩
 go_wp2_with fail
 go_ret
 exact ⟨rfl, rfl⟩
theorem contains_any (v : Value) (l : List Bs) (w : World) (hv : SS w v l) :
  Calls Tryz.prog 150 #[v, .func (.func 149) #[] #[]] w fun e w' => e = .returned (.bool (oddS l)) ∧ ∃ q, w' = w.drewN q := by
 obtain ⟨a, cap, rfl, h1, h2, h3⟩ := hv
 by_cases hl : l = []
 ·subst hl
  refine (AnyE.slices_ContainsFunc_empty laysCont a cap _ w).mono ?_
  rintro e w' ⟨rfl, rfl⟩
  exact ⟨rfl, 0, rfl⟩
 ·obtain ⟨g, off, rfl, hg, hc⟩ := h3 hl
  have := AnyE.slices_ContainsFunc laysCont (fun s : Bs => .string ⟨List.toArray s⟩) (fun s => !decide (s.length = 32)) 149 #[] (enters_of (Tryz.func149) (by decide) rfl) g off l.length cap l w (fun W x _ => (hd_odd x W).mono (fun e w' ⟨h, h'⟩ => ⟨h, 0, h'⟩)) (Nat.le_refl _) (by unfold maxLen at h2; omega) (fun j hj => by
   rw [hc j hj]
   simp [List.getD, hj])
  rw [List.take_length] at this
  exact this
end Go.Proofs.YthgjdaomcpinaaaGreatDoor
