/- ActV. -/
import Derived.Test.YtbnjhfkmdejeaaaDoorMg15
import Derived.Test.YtbnjhfkmdejeaaaDoorMj7
set_option linter.unnecessarySimpa false

/- Acts done to a store, as an argument; two numbers. -/
set_option linter.unusedVariables false
set_option linter.unnecessarySimpa false
namespace Go.Proofs.YtbnjhfkmdejeaaaDoor
open Go.ChangeShapes Go.WideShapes Go.ChangeAt Go.RowKit Pl

theorem act_val {W : World} {v : Value} (h : Sh.Val W (.slice 4 (.pair (.int .i64) (.pair .str (.pair (.pair (.int .i64) (.pair (.int .i64) .unit)) .unit)))) v) : ∃ l : List ActP, AS W v l ∧ AShort l := by
  rcases (show _ ∨ _ from h) with h | ⟨a, len, cap, hv, hlc, hcm, hel⟩
  · obtain rfl : v = .slice none 0 0 := by simpa using h
    exact ⟨[], ⟨none, 0, rfl, Nat.le_refl _, by unfold maxLen; omega, fun h => absurd rfl h⟩, fun i => by simp [maxLen]⟩
  · obtain rfl : v = .slice (some a) len cap := by simpa using hv
    rcases Nat.eq_zero_or_pos len with h0 | hpos
    · subst h0
      exact ⟨[], ⟨some a, cap, rfl, hlc, hcm, fun h => absurd rfl h⟩, fun i => by simp [maxLen]⟩
    · obtain ⟨hs, hc⟩ := slice_cells (by decide) hpos hel
      have hf : ∀ i, ∃ x : ActP, i < len → (W.cell? ⟨a.block, a.off + i * 4, none⟩ = some (.int .i64 (x.1)) ∧ W.cell? ⟨a.block, a.off + i * 4 + 1, none⟩ = some (.string ⟨List.toArray (x.2.1)⟩) ∧
          W.cell? ⟨a.block, a.off + i * 4 + 2, none⟩ = some (.int .i64 (x.2.2.1)) ∧ W.cell? ⟨a.block, a.off + i * 4 + 3, none⟩ = some (.int .i64 (x.2.2.2))) ∧ x.2.1.length ≤ maxLen := by
        intro i
        by_cases hi : i < len
        · obtain ⟨cs, ⟨c0, c1, rfl, ⟨n, rfl, _⟩, c2, c3, rfl, ⟨s, rfl, hs1⟩, c4, c5, rfl, ⟨c6, c7, rfl, ⟨n1, rfl, _⟩, c8, c9, rfl, ⟨n2, rfl, _⟩, hu1⟩, hu⟩, _, hj⟩ := hc i hi
          obtain rfl : c9 = [] := hu1
          obtain rfl : c5 = [] := hu
          have h0 := hj 0 (by decide)
          have h1 := hj 1 (by decide)
          have h2 := hj 2 (by decide)
          have h3 := hj 3 (by decide)
          refine ⟨(n, s.data.toList, n1, n2), fun _ => ⟨⟨?_, ?_, ?_, ?_⟩, by rw [Array.length_toList]; exact hs1⟩⟩
          · simpa using h0
          · rw [← str_list s]
            simpa using h1
          · simpa using h2
          · simpa using h3
        · exact ⟨act0, fun h => absurd h hi⟩
      obtain ⟨f, hf⟩ := Classical.axiomOfChoice hf
      obtain ⟨b, off, sp⟩ := a
      simp only at hs
      subst hs
      have hg : ∀ i, i < len → ((List.range len).map f).getD i act0 = f i := fun i hi' => by simp [List.getD, hi']
      refine ⟨(List.range len).map f, ⟨some ⟨b, off, none⟩, cap, by simp, by simpa using hlc, hcm, fun _ => ⟨b, off, rfl, cell_lt (hf 0 hpos).1.1, fun i hi => ?_⟩⟩, fun i => ?_⟩
      · have hi' : i < len := by simpa using hi
        rw [hg i hi']
        exact (hf i hi').1
      · by_cases hi' : i < len
        · rw [hg i hi']
          exact (hf i hi').2
        · rw [List.getD_eq_getElem?_getD, List.getElem?_eq_none (by simp; omega)]
          simp [maxLen]
theorem two_val {W : World} {v : Value} (h : Sh.Val W (.pair (.int .i64) (.pair (.int .i64) .unit)) v) : ∃ x y : Int, v = .agg #[.int .i64 (x), .int .i64 (y)] := by
  obtain ⟨c0, rfl, _, _, rfl, ⟨k, rfl, _⟩, _, y, rfl, ⟨k2, rfl, _⟩, hu⟩ := h
  obtain rfl : y = [] := hu
  exact ⟨k, k2, rfl⟩
end Go.Proofs.YtbnjhfkmdejeaaaDoor
