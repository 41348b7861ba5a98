/- Arguments of the types []string and api.Cert. -/
import Derived.Test.YtmldonbmjgelnaaDoorCert
import Derived.Test.YtmldonbmjgelnaaDoorMVal
set_option linter.unusedVariables false
namespace Go.Proofs.YtmldonbmjgelnaaDoor
open Go.ChangeShapes Go.WideShapes Go.ChangeAt Go.RowKit Pl

theorem ss_val {W : World} {v : Value} (h : Sh.Val W (.slice 1 .str) v) : ∃ l : List Bs, SS W v l ∧ ∀ i, i < l.length → (l.getD i []).length ≤ maxLen := by
  rcases (show _ ∨ _ from h) with h | ⟨a, len, cap, hv, hlc, hcm, hel⟩
  · obtain rfl : v = .slice none 0 0 := by simpa using h
    exact ⟨[], SS.nil W, fun i hi => by simp at hi⟩
  · obtain rfl : v = .slice (some a) len cap := by simpa using hv
    rcases Nat.eq_zero_or_pos len with h0 | hpos
    · subst h0
      exact ⟨[], ⟨some a, cap, rfl, hlc, hcm, fun h => absurd rfl h⟩, fun i hi => by simp at hi⟩
    · obtain ⟨hs, hc⟩ := slice_cells (by decide) hpos hel
      have hf : ∀ i, ∃ x : Bs, i < len → W.cell? ⟨a.block, a.off + i, none⟩ = some (.string ⟨List.toArray (x)⟩) ∧ x.length ≤ maxLen := by
        intro i
        by_cases hi : i < len
        · obtain ⟨cs, ⟨s, rfl, hsl⟩, _, hj⟩ := hc i hi
          have h0 := hj 0 (by decide)
          refine ⟨s.data.toList, fun _ => ⟨?_, by rw [Array.length_toList]; exact hsl⟩⟩
          rw [← str_list s]
          simpa using h0
        · exact ⟨[], fun h => absurd h hi⟩
      obtain ⟨f, hf⟩ := Classical.axiomOfChoice hf
      obtain ⟨b, off, sp⟩ := a
      simp only at hs
      subst hs
      have hg : ∀ i, i < len → ((List.range len).map f).getD i [] = f i := fun i hi => by simp [List.getD, hi]
      refine ⟨(List.range len).map f, ⟨some ⟨b, off, none⟩, cap, by simp, by simpa using hlc, hcm, fun _ => ⟨b, off, rfl, cell_lt (hf 0 hpos).1, fun i hi => ?_⟩⟩, fun i hi => ?_⟩
      · have hi' : i < len := by simpa using hi
        rw [hg i hi']
        exact (hf i hi').1
      · have hi' : i < len := by simpa using hi
        rw [hg i hi']
        exact (hf i hi').2
theorem cert_val {W : World} {v : Value} (h : Sh.Val W (.pair .str (.pair (.slice 1 .str) .unit)) v) : ∃ (d : Bs) (l : List Bs), CV W v d l ∧ d.length ≤ maxLen ∧ ∀ i, i < l.length → (l.getD i []).length ≤ maxLen := by
  obtain ⟨c0, rfl, x, y, rfl, ⟨s, rfl, hs⟩, z, u, rfl, hz, hu⟩ := h
  obtain rfl : u = [] := hu
  obtain ⟨v', rfl, hv⟩ : ∃ v', z = [v'] ∧ Sh.Val W (.slice 1 .str) v' := by
    rcases hz with rfl | ⟨a, len, cap, rfl, hr⟩
    · exact ⟨_, rfl, .inl rfl⟩
    · exact ⟨_, rfl, .inr ⟨a, len, cap, rfl, hr⟩⟩
  obtain ⟨l, hl, hlen⟩ := ss_val hv
  refine ⟨s.data.toList, l, ⟨v', ?_, hl⟩, by rw [Array.length_toList]; exact hs, hlen⟩
  rw [← str_list s]
  simp
end Go.Proofs.YtmldonbmjgelnaaDoor
