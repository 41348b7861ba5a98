/- Walks of the safety functions. -/
import Derived.Test.YtaomimincmggfaaRows
import Derived.Test.YtaomimincmggfaaKit
set_option linter.unusedSimpArgs false
set_option linter.unusedVariables false
namespace Go.Proofs.Ytaomimincmggfaa
open Go.RowKit

def mayF (v l view just : Int) : Int :=
  if view < 1 ∨ 1048576 < view ∨ just < 0 ∨ view ≤ just then 1
  else if view ≤ v then 230
  else if just < l then 231
  else 0

set_option maxHeartbeats 400000 in
theorem may_any (v l view just : Int) (w : World) :
    Calls Try.prog 7 #[.agg #[.int .i64 v, .int .i64 l], .int .i64 view, .int .i64 just] w fun e w' =>
      e = .returned (.int .i64 (mayF v l view just)) ∧ Below w.heap.size w w' := by
  unfold mayF
  go_enter Try.func7, Try.ntmps7
  go_wp2
  all_goals (go_ret; refine ⟨?_, by exact (Below.refl _ _).alloc (Nat.le_refl _) _⟩)
  all_goals simp [*]

set_option maxHeartbeats 400000 in
theorem rmay_any (v l view just : Int) (w : World) :
    Calls Try.prog 8 #[.agg #[.int .i64 v, .int .i64 l], .int .i64 view, .int .i64 just] w fun e w' =>
      e = .returned (.int .i64 (mayF v l view just)) ∧ Below w.heap.size w w' := by
  unfold mayF
  go_enter Try.func8, Try.ntmps8
  go_wp2
  all_goals (go_ret; refine ⟨?_, by exact (Below.refl _ _).alloc (Nat.le_refl _) _⟩)
  all_goals simp [*]

def voteF (v l view just back : Int) : Int × Int × Int :=
  if mayF v l view just ≠ 0 then (0, 0, mayF v l view just)
  else if back < 0 ∨ (just ≤ back ∧ ¬ (just = 0 ∧ back = 0)) then (0, 0, 1)
  else (view, max l back, 0)

set_option maxHeartbeats 400000 in
theorem vote_any (v l view just back : Int) (w : World) :
    Calls Try.prog 5 #[.agg #[.int .i64 v, .int .i64 l], .int .i64 view, .int .i64 just, .int .i64 back] w fun e w' =>
      e = .returned (.tuple #[.agg #[.int .i64 (voteF v l view just back).1, .int .i64 (voteF v l view just back).2.1], .int .i64 (voteF v l view just back).2.2]) ∧ Below w.heap.size w w' := by
  generalize hr : voteF v l view just back = r
  unfold voteF at hr
  have hR := Lib.hid hr
  clear hr
  generalize hm : mayF v l view just = m at hR
  have hM := Lib.hid hm
  clear hm
  go_enter Try.func5, Try.ntmps5
  go_wp2_with fail
  refine (may_any _ _ _ _ _).mono ?_
  rintro e w1 ⟨rfl, hb⟩
  rw [hM.out]
  have c0 : w1.cell? ⟨w.heap.size, 0, none⟩ = some (.int .i64 v) := keepC hb (by simp)
  have c1 : w1.cell? ⟨w.heap.size, 1, none⟩ = some (.int .i64 l) := keepC hb (by simp)
  have c2 : w1.cell? ⟨w.heap.size + 1, 0, none⟩ = some (.int .i64 0) := keepC hb (by simp [go_sem])
  have c3 : w1.cell? ⟨w.heap.size + 1, 1, none⟩ = some (.int .i64 0) := keepC hb (by simp [go_sem])
  have f0 : ∀ o, w1.frozen? ⟨w.heap.size, o, none⟩ = false := fun o => keepF hb (by simp <;> omega) (by simp)
  have f1 : ∀ o, w1.frozen? ⟨w.heap.size + 1, o, none⟩ = false := fun o => keepF hb (by simp <;> omega) (by simp [go_sem])
  have hz0 : w.heap.size < w1.heap.size := by have := hb.size; simp at this; omega
  have hz1 : w.heap.size + 1 < w1.heap.size := by have := hb.size; simp at this; omega
  go_wp2_with fail
  all_goals (simp [bodyPost, results, Try.results5, go_sem, c0, c1, c2, c3, f0, f1, hz0, hz1])
  all_goals (refine ⟨?_, ?_⟩)
  all_goals (first | (rw [← hR.out]; simp [*]; done) | (rw [← hR.out]; simp_all; done) | (have hq := hR.out; clear hR; (repeat' split at hq) <;> (subst hq; simp_all <;> omega; done)) | (repeat (first | exact Below.refl _ _ | assumption | apply Below.drew | (refine Below.setCell ?_ (by simp <;> omega) _) | (refine Below.alloc ?_ (by simp <;> omega) _) | (refine Below.trans ?_ (Below.mono (by assumption) (by simp <;> omega))))))

set_option maxHeartbeats 400000 in
theorem rvote_any (v l view just back : Int) (w : World) :
    Calls Try.prog 6 #[.agg #[.int .i64 v, .int .i64 l], .int .i64 view, .int .i64 just, .int .i64 back] w fun e w' =>
      e = .returned (.tuple #[.agg #[.int .i64 (voteF v l view just back).1, .int .i64 (voteF v l view just back).2.1], .int .i64 (voteF v l view just back).2.2]) ∧ Below w.heap.size w w' := by
  generalize hr : voteF v l view just back = r
  unfold voteF at hr
  have hR := Lib.hid hr
  clear hr
  generalize hm : mayF v l view just = m at hR
  have hM := Lib.hid hm
  clear hm
  go_enter Try.func6, Try.ntmps6
  go_wp2_with fail
  refine (rmay_any _ _ _ _ _).mono ?_
  rintro e w1 ⟨rfl, hb⟩
  rw [hM.out]
  have c0 : w1.cell? ⟨w.heap.size, 0, none⟩ = some (.int .i64 v) := keepC hb (by simp)
  have c1 : w1.cell? ⟨w.heap.size, 1, none⟩ = some (.int .i64 l) := keepC hb (by simp)
  have c2 : w1.cell? ⟨w.heap.size + 1, 0, none⟩ = some (.int .i64 0) := keepC hb (by simp [go_sem])
  have c3 : w1.cell? ⟨w.heap.size + 1, 1, none⟩ = some (.int .i64 0) := keepC hb (by simp [go_sem])
  have f0 : ∀ o, w1.frozen? ⟨w.heap.size, o, none⟩ = false := fun o => keepF hb (by simp <;> omega) (by simp)
  have f1 : ∀ o, w1.frozen? ⟨w.heap.size + 1, o, none⟩ = false := fun o => keepF hb (by simp <;> omega) (by simp [go_sem])
  have hz0 : w.heap.size < w1.heap.size := by have := hb.size; simp at this; omega
  have hz1 : w.heap.size + 1 < w1.heap.size := by have := hb.size; simp at this; omega
  go_wp2_with fail
  all_goals (simp [bodyPost, results, Try.results6, go_sem, c0, c1, c2, c3, f0, f1, hz0, hz1])
  all_goals (refine ⟨?_, ?_⟩)
  all_goals (first | (rw [← hR.out]; simp [*]; done) | (rw [← hR.out]; simp_all; done) | (have hq := hR.out; clear hR; (repeat' split at hq) <;> (subst hq; simp_all <;> omega; done)) | (repeat (first | exact Below.refl _ _ | assumption | apply Below.drew | (refine Below.setCell ?_ (by simp <;> omega) _) | (refine Below.alloc ?_ (by simp <;> omega) _) | (refine Below.trans ?_ (Below.mono (by assumption) (by simp <;> omega))))))


def threeB (a b c : Int) : Bool := decide (0 ≤ a ∧ b = a + 1 ∧ c = a + 2)

set_option maxHeartbeats 400000 in
theorem three_any (a b c : Int) (ha : -9223372036854775808 ≤ a ∧ a ≤ 9223372036854775807) (hb : -9223372036854775808 ≤ b ∧ b ≤ 9223372036854775807) (hc : -9223372036854775808 ≤ c ∧ c ≤ 9223372036854775807) (w : World) :
    Calls Try.prog 9 #[.int .i64 a, .int .i64 b, .int .i64 c] w fun e w' => e = .returned (.bool (threeB a b c)) ∧ w = w' := by
  obtain ⟨ha1, ha2⟩ := ha
  obtain ⟨hb1, hb2⟩ := hb
  obtain ⟨hc1, hc2⟩ := hc
  generalize hr : threeB a b c = r
  have hR := Lib.hid hr
  clear hr
  by_cases h0 : 0 ≤ a
  · by_cases h1 : a < b
    · by_cases h2 : b < c
      · go_enter Try.func9, Try.ntmps9
        go_wp2_with fail
        all_goals (go_ret; refine ⟨?_, rfl⟩; rw [← hR.out]; unfold threeB; refine ret_bool ?_; simp; omega)
      · go_enter Try.func9, Try.ntmps9
        go_wp2_with fail
        all_goals (go_ret; refine ⟨?_, rfl⟩; rw [← hR.out]; unfold threeB; refine ret_bool ?_; simp; omega)
    · go_enter Try.func9, Try.ntmps9
      go_wp2_with fail
      all_goals (go_ret; refine ⟨?_, rfl⟩; rw [← hR.out]; unfold threeB; refine ret_bool ?_; simp; omega)
  · go_enter Try.func9, Try.ntmps9
    go_wp2_with fail
    all_goals (go_ret; refine ⟨?_, rfl⟩; rw [← hR.out]; unfold threeB; refine ret_bool ?_; simp; omega)

set_option maxHeartbeats 400000 in
theorem rthree_any (a b c : Int) (ha : -9223372036854775808 ≤ a ∧ a ≤ 9223372036854775807) (hb : -9223372036854775808 ≤ b ∧ b ≤ 9223372036854775807) (hc : -9223372036854775808 ≤ c ∧ c ≤ 9223372036854775807) (w : World) :
    Calls Try.prog 10 #[.int .i64 a, .int .i64 b, .int .i64 c] w fun e w' => e = .returned (.bool (threeB a b c)) ∧ w = w' := by
  obtain ⟨ha1, ha2⟩ := ha
  obtain ⟨hb1, hb2⟩ := hb
  obtain ⟨hc1, hc2⟩ := hc
  generalize hr : threeB a b c = r
  have hR := Lib.hid hr
  clear hr
  by_cases h0 : 0 ≤ a
  · by_cases h1 : a < 1099511627776
    · by_cases h2 : b = a + 1
      · subst h2
        go_enter Try.func10, Try.ntmps10
        go_wp2_with fail
        all_goals (go_ret; refine ⟨?_, rfl⟩; rw [← hR.out]; unfold threeB; refine ret_bool ?_; simp; omega)
      · have h3 : (b == a + 1) = false := by simpa using h2
        go_enter Try.func10, Try.ntmps10
        go_wp2_with fail
        all_goals (go_ret; refine ⟨?_, rfl⟩; rw [← hR.out]; unfold threeB; refine ret_bool ?_; simp; omega)
    · by_cases h2 : a < b
      · by_cases h3 : b < c
        · go_enter Try.func10, Try.ntmps10
          go_wp2_with fail
          all_goals (go_ret; refine ⟨?_, rfl⟩; rw [← hR.out]; unfold threeB; refine ret_bool ?_; simp; omega)
        · go_enter Try.func10, Try.ntmps10
          go_wp2_with fail
          all_goals (go_ret; refine ⟨?_, rfl⟩; rw [← hR.out]; unfold threeB; refine ret_bool ?_; simp; omega)
      · go_enter Try.func10, Try.ntmps10
        go_wp2_with fail
        all_goals (go_ret; refine ⟨?_, rfl⟩; rw [← hR.out]; unfold threeB; refine ret_bool ?_; simp; omega)
  · go_enter Try.func10, Try.ntmps10
    go_wp2_with fail
    all_goals (go_ret; refine ⟨?_, rfl⟩; rw [← hR.out]; unfold threeB; refine ret_bool ?_; simp; omega)

end Go.Proofs.Ytaomimincmggfaa
