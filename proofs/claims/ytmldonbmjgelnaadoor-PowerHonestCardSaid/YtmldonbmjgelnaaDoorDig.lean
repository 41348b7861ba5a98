/- Walks of layer 4: sums with tags. -/
import Derived.Test.YtmldonbmjgelnaaDoorRsum
set_option linter.unusedSimpArgs false
set_option linter.unusedVariables false
namespace Go.Proofs.YtmldonbmjgelnaaDoor
open Go.RowKit

/-- The sum of a text with a tag. -/
def tagP (tag : Nat) (s : List UInt8) : List UInt8 := sumP (UInt8.ofNat tag :: s)
theorem tagP_len (tag : Nat) (s : List UInt8) : (tagP tag s).length = 32 := sumP_len _

theorem digsum_ok (tag : Nat) (h1 : 1 ≤ tag) (h2 : tag ≤ 255) (s : List UInt8) (hs : s.length ≤ 1099511627000) (w : World) (hk : KT w) :
    Calls Tryd.prog 26 #[.int .i64 ((tag : Int)), .string ⟨List.toArray (s)⟩] w fun e w' => e = .returned (.tuple #[.string ⟨List.toArray (tagP tag s)⟩, .int .i64 (0)]) ∧ Below w.heap.size w w' := by
  have hd1 : decide ((tag : Int) < 1) = false := by simp; omega
  have hd2 : decide ((255 : Int) < (tag : Int)) = false := by simp; omega
  have q : IntKind.u8.wrap (tag : Int) = (tag : Int) := by rw [IntKind.wrap_u8']; omega
  have hcat : ¬ 9223372036854775807 < 1 + s.length := by omega
  have hcat2 : ¬ 9223372036854775807 < s.length + 1 := by omega
  have hb0 : Below w.heap.size w (w.alloc (.cells #[.int .u8 (tag : Int)] 5)) := Below.allocS (Below.refl _ _) _
  go_enter Tryd.func26, Tryd.ntmps26
  go_wp2_with fail
  refine (shasum_any (UInt8.ofNat tag :: s) (by simp; omega) _ (hk.keep hb0)).mono ?_
  rintro e w2 ⟨rfl, hb⟩
  go_wp2_with fail
  go_ret2
  exact ⟨rfl, hb0.trans (hb.mono (by simp))⟩
theorem tagged_any (tag : Nat) (h2 : tag ≤ 255) (s : List UInt8) (hs : s.length ≤ 1099511627000) (w : World) :
    Calls Tryd.prog 68 #[.int .i64 ((tag : Int)), .string ⟨List.toArray (s)⟩] w fun e w' => e = .returned (.string ⟨List.toArray (tagP tag s)⟩) ∧ Below w.heap.size w w' := by
  have q : IntKind.u8.wrap (tag : Int) = (tag : Int) := by rw [IntKind.wrap_u8']; omega
  have hcat : ¬ 9223372036854775807 < 1 + s.length := by omega
  have hcat2 : ¬ 9223372036854775807 < s.length + 1 := by omega
  have hb0 : Below w.heap.size w (w.alloc (.cells #[.int .u8 (tag : Int)] 5)) := Below.allocS (Below.refl _ _) _
  go_enter Tryd.func68, Tryd.ntmps68
  go_wp2_with fail
  refine (rsum_any (UInt8.ofNat tag :: s) (by simp; omega) _).mono ?_
  rintro e w2 ⟨rfl, hb⟩
  go_wp2_with fail
  go_ret
  exact ⟨rfl, hb0.trans (hb.mono (by simp))⟩

end Go.Proofs.YtmldonbmjgelnaaDoor
