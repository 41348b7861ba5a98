/- Plain: how often names were counted in a map. -/
import Derived.Test.YtmldonbmjgelnaaDoorPlain
import Derived.Maps.Views
set_option linter.unusedVariables false
namespace Go.Proofs.YtmldonbmjgelnaaDoor
open Go.Maps
namespace Pl

/-- The map behind these names, the last first. -/
def cntD : List Bs → DataW Unit
  | [] => .map []
  | n :: r => (cntD r).put (.string n) (.lit (.int .i64 (((r.count n + 1 : Nat)) : Int)))
theorem cntD_map : ∀ r, IsMap (cntD r)
  | [] => ⟨[], rfl⟩
  | n :: r => by
    obtain ⟨es, h⟩ := cntD_map r
    unfold cntD
    rw [h]
    exact ⟨_, rfl⟩
theorem cntD_at : ∀ (r : List Bs) (n : Bs), (cntD r).atKey (.string n) (.lit (.int .i64 0)) = .lit (.int .i64 ((r.count n : Nat) : Int))
  | [], n => rfl
  | x :: r, n => by
    unfold cntD
    by_cases h : n = x
    · subst h
      rw [atKey_put_same (cntD_map r) (by first | trivial | exact rfl | simp [WideAt.IsKeyLit])]
      simp
    · rw [atKey_put_other (by intro e; injection e with e; exact h e), cntD_at r n]
      rw [List.count_cons_of_ne (fun e => h e.symm)]

end Pl
end Go.Proofs.YtmldonbmjgelnaaDoor
