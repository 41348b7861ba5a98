/- Walks of the laws. -/
import Derived.Test.YtaomimincmggfaaSafety
set_option linter.unusedSimpArgs false
set_option linter.unusedVariables false
namespace Go.Proofs.Ytaomimincmggfaa
open Go.RowKit

set_option maxHeartbeats 400000 in
theorem works_any (w : World) :
    Calls Try.prog 11 #[] w fun e w' => e = .returned (.bool true) ∧ Below w.heap.size w w' := by
  go_enter Try.func11, Try.ntmps11
  go_wp2_with fail
  refine (vote_any _ _ _ _ _ _).mono ?_
  rintro e w1 ⟨rfl, hb⟩
  rw [show voteF 3 2 4 3 2 = (4, 2, 0) from by decide]
  have c0 : w1.cell? ⟨w.heap.size, 0, none⟩ = some (.int .i64 3) := keepC hb (by simp)
  have c1 : w1.cell? ⟨w.heap.size, 1, none⟩ = some (.int .i64 2) := keepC hb (by simp)
  have hz0 : w.heap.size < w1.heap.size := by have := hb.size; simp at this; omega
  go_wp2_with fail
  refine (may_any _ _ _ _ _).mono ?_
  rintro e w2 ⟨rfl, hb2⟩
  rw [show mayF 3 2 4 2 = 0 from by decide]
  have c02 : w2.cell? ⟨w.heap.size, 0, none⟩ = some (.int .i64 3) := keepC hb2 (by simp [go_sem, c0, hz0])
  have c12 : w2.cell? ⟨w.heap.size, 1, none⟩ = some (.int .i64 2) := keepC hb2 (by simp [go_sem, c1, hz0])
  have d02 : w2.cell? ⟨w1.heap.size, 0, none⟩ = some (.int .i64 4) := keepC hb2 (by simp)
  have d12 : w2.cell? ⟨w1.heap.size, 1, none⟩ = some (.int .i64 2) := keepC hb2 (by simp)
  go_wp2_with fail
  refine (may_any _ _ _ _ _).mono ?_
  rintro e w3 ⟨rfl, hb3⟩
  rw [show mayF 3 2 3 2 = 230 from by decide]
  have c03 : w3.cell? ⟨w.heap.size, 0, none⟩ = some (.int .i64 3) := keepC hb3 c02
  have c13 : w3.cell? ⟨w.heap.size, 1, none⟩ = some (.int .i64 2) := keepC hb3 c12
  have d03 : w3.cell? ⟨w1.heap.size, 0, none⟩ = some (.int .i64 4) := keepC hb3 d02
  have d13 : w3.cell? ⟨w1.heap.size, 1, none⟩ = some (.int .i64 2) := keepC hb3 d12
  go_wp2_with fail
  refine (may_any _ _ _ _ _).mono ?_
  rintro e w4 ⟨rfl, hb4⟩
  rw [show mayF 3 2 5 1 = 231 from by decide]
  have d04 : w4.cell? ⟨w1.heap.size, 0, none⟩ = some (.int .i64 4) := keepC hb4 d03
  have d14 : w4.cell? ⟨w1.heap.size, 1, none⟩ = some (.int .i64 2) := keepC hb4 d13
  go_wp2_with fail
  refine (three_any _ _ _ (by omega) (by omega) (by omega) _).mono ?_
  rintro e w' ⟨rfl, rfl⟩
  rw [show threeB 4 5 6 = true from by decide]
  go_wp2_with fail
  refine (three_any _ _ _ (by omega) (by omega) (by omega) _).mono ?_
  rintro e w' ⟨rfl, rfl⟩
  rw [show threeB 4 5 7 = false from by decide]
  go_wp2_with fail
  go_ret
  refine ⟨rfl, ?_⟩
  have h1 := hb.size
  have h2 := hb2.size
  have h3 := hb3.size
  simp at h1 h2
  refine Below.trans (Below.trans (Below.trans (Below.trans ?_ (hb.mono (by simp))) ?_) (hb3.mono (by omega))) (hb4.mono (by omega))
  · exact (Below.refl _ _).alloc (Nat.le_refl _) _
  · exact ((Below.refl _ _).alloc (by omega) _).trans (hb2.mono (by simp; omega))

end Go.Proofs.Ytaomimincmggfaa
