/- Walks of the document's answer for layer 8: the bytes of a node that may be, of any kind. -/
import Derived.Test.YtmldonbmjgelnaaDoorWrit8
import Derived.Test.YtmldonbmjgelnaaDoorFine
set_option linter.unusedSimpArgs false
set_option linter.unusedVariables false
namespace Go.Proofs.YtmldonbmjgelnaaDoor
open Go.RowKit Pl

theorem writ_any (kind : Int) (path val : Bs) (kid : Nat → Bs) (hf : fineR kind path val kid = true) (w : World) :
    Calls Tryd.prog 67 #[.agg (nd kind path val kid).toArray] w fun e w' => e = .returned (.string ⟨List.toArray (enc kind path val kid)⟩) ∧ Below w.heap.size w w' := by
  have hc : chk kind path val kid = true := by rw [← fine_chk]; exact hf
  unfold fineR at hf
  split at hf
  · cases hf
  · rename_i ha
    have ha' : all32 (kidsF kid) = true := by simpa using ha
    split at hf
    · cases hf
    · rename_i hb
      simp only [not_or] at hb
      obtain ⟨_, hp, hv⟩ := hb
      by_cases k1 : kind = 1
      · subst k1
        rw [show enc 1 path val kid = 1 :: (text (pack path true).1 ++ text val) from by simp [enc]]
        exact writ_leaf path val kid (by omega) (by omega) w
      · by_cases k2 : kind = 2
        · subst k2
          have h0 : (kid 0).length ≤ 32 := by
            simp [chk, all32] at hc
            omega
          rw [show enc 2 path val kid = 2 :: (text (pack path false).1 ++ kid 0) from by simp [enc]]
          exact writ_ext path val kid (by omega) h0 w
        · by_cases k3 : kind = 3
          · subst k3
            rw [show enc 3 path val kid = [3, UInt8.ofNat (hiK kid), UInt8.ofNat (loK kid)] ++ (kidsF kid).flatten ++ text val from by simp [enc]]
            exact writ_branch path val kid ha' (by omega) w
          · rw [if_neg k1, if_neg k2, if_neg k3] at hf
            cases hf

end Go.Proofs.YtmldonbmjgelnaaDoor
