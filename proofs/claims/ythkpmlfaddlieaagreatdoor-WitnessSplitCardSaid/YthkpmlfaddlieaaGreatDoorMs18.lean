/- Mark7. -/
import Derived.Test.YthkpmlfaddlieaaGreatDoorMs15
set_option linter.unnecessarySimpa false
set_option linter.unusedSimpArgs false
set_option linter.unusedVariables false
set_option maxRecDepth 100000
set_option maxHeartbeats 32000000
namespace Go.Proofs.YthkpmlfaddlieaaGreatDoor
open Go.RowKit Pl
theorem rtag_any (tag : Int) (w : World) : Calls Tryz.prog 71 #[.int .i64 tag] w fun e w' => e = .returned (.bool (tagC tag)) ∧ Below w.heap.size w w' := by
 unfold tagC
 by_cases h5 : tag = 5
 ·subst h5
  go_enter Tryz.func71, Tryz.ntmps71
  go_wp2_with fail
  all_goals (go_ret; exact ⟨by simp, Below.refl _ _⟩)
 ·have e5 : (tag == 5) = false := by simpa using h5
  by_cases h6 : tag = 6
  ·subst h6
   go_enter Tryz.func71, Tryz.ntmps71
   go_wp2_with fail
   all_goals (go_ret; exact ⟨by simp, Below.refl _ _⟩)
  ·have e6 : (tag == 6) = false := by simpa using h6
   go_enter Tryz.func71, Tryz.ntmps71
   go_wp2_with fail
   all_goals (go_ret; exact ⟨by simp [h5, h6], Below.refl _ _⟩)
theorem rmark_any (tag : Int) (s : Bs) (hsm : s.length ≤ 9223372036854775807) (w : World) :
  Calls Tryz.prog 34 #[.int .i64 tag, .string ⟨s.toArray⟩] w fun e w' => e = .returned (.tuple #[.string ⟨List.toArray ((markP tag s).1)⟩, .int .i64 ((markP tag s).2)]) ∧ Below w.heap.size w w' := by
 have htg := rtag_any tag
 cases ht : tagC tag
 ·rw [show markP tag s = ([], 1) from by simp [markP, ht]]
  rw [ht] at htg
  go_enter Tryz.func34, Tryz.ntmps34
  go_wp2_with fail
  refine (htg _).mono ?_
  rintro e w1 ⟨rfl, hb⟩
  go_wp2_with fail
  all_goals (go_ret2; exact ⟨rfl, hb⟩)
 ·rw [ht] at htg
  by_cases hl : s.length = 32
  ·rw [show markP tag s = (tagP tag.toNat s, 0) from by simp [markP, ht, hl]]
   have hl1 : ((s.length : Int) != 32) = false := by simp; omega
   obtain ⟨t, rfl, ht1⟩ : ∃ t : Nat, tag = t ∧ (t = 5 ∨ t = 6) := by
    simp [tagC] at ht
    rcases ht with rfl | rfl
    ·exact ⟨5, rfl, .inl rfl⟩
    ·exact ⟨6, rfl, .inr rfl⟩
   rw [Int.toNat_natCast]
   have hd := fun w => tagged_any t (by omega) s (by omega) w
   have HL := Lib.hid hl
   clear ht hl
   go_enter Tryz.func34, Tryz.ntmps34
   go_wp2_with fail
   refine (htg _).mono ?_
   rintro e w1 ⟨rfl, hb⟩
   go_wp2_with fail
   refine (hd _).mono ?_
   rintro e w2 ⟨rfl, hb2⟩
   go_wp2_with fail
   all_goals (go_ret2; exact ⟨rfl, hb.trans (hb2.mono hb.size)⟩)
  ·rw [show markP tag s = ([], 3) from by simp [markP, ht, hl]]
   have hl1 : ((s.length : Int) != 32) = true := by simp; omega
   go_enter Tryz.func34, Tryz.ntmps34
   go_wp2_with fail
   refine (htg _).mono ?_
   rintro e w1 ⟨rfl, hb⟩
   go_wp2_with fail
   all_goals (go_ret2; exact ⟨rfl, hb⟩)
theorem markP_len (tag : Int) (s : Bs) : (Pl.markP tag s).1.length ≤ 32 := by
 unfold Pl.markP
 split
 ·simp
 ·split
  ·simp
  ·exact Nat.le_of_eq (tagP_len _ _)
end Go.Proofs.YthkpmlfaddlieaaGreatDoor
