/- An argument of the type api.Node is a node of ours. -/
import Derived.Test.YtmldonbmjgelnaaDoorNode
import Derived.Test.YtmldonbmjgelnaaDoorOpen
set_option linter.unusedVariables false
namespace Go.Proofs.YtmldonbmjgelnaaDoor
open Go.ChangeShapes Go.WideShapes Go.ChangeAt Go.RowKit Pl

theorem str_list (s : ByteArray) : s = ⟨List.toArray s.data.toList⟩ := by
  apply ByteArray.ext
  simp
theorem rep_strs {W : World} : ∀ (n : Nat) (cs : List Value), (repSh .str n).Ok W cs → ∃ f : Nat → Bs, cs = (List.range n).map fun i => .string ⟨List.toArray (f i)⟩
  | 0, cs, h => by
    rw [show cs = [] from h]
    exact ⟨noK, rfl⟩
  | n + 1, cs, h => by
    obtain ⟨x, y, rfl, ⟨s, rfl, _⟩, hy⟩ := h
    obtain ⟨f, rfl⟩ := rep_strs n y hy
    refine ⟨fun i => match i with | 0 => s.data.toList | j + 1 => f j, ?_⟩
    rw [List.range_succ_eq_map]
    simp
theorem node_val {W : World} {v : Value} (h : Sh.Val W (.pair (.int .i64) (.pair .str (.pair .str (.pair (repSh .str 16) .unit)))) v) : ∃ (k : Int) (p q : Bs) (kid : Nat → Bs), v = .agg (nd k p q kid).toArray := by
  obtain ⟨c0, rfl, _, _, rfl, ⟨k, rfl, _⟩, _, _, rfl, ⟨p, rfl, _⟩, _, _, rfl, ⟨q, rfl, _⟩, _, _, rfl, hr, rfl⟩ := h
  obtain ⟨f, rfl⟩ := rep_strs 16 _ hr
  refine ⟨k, p.data.toList, q.data.toList, f, ?_⟩
  rw [nd, ka, kidL, List.map_map]
  simp

theorem str_val {W : World} {v : Value} (h : Sh.Val W .str v) : ∃ s : Bs, v = .string ⟨List.toArray (s)⟩ := by
  obtain ⟨s, hs, _⟩ := h
  obtain rfl : v = .string s := by simpa using hs
  exact ⟨s.data.toList, congrArg Value.string (str_list s)⟩

end Go.Proofs.YtmldonbmjgelnaaDoor
