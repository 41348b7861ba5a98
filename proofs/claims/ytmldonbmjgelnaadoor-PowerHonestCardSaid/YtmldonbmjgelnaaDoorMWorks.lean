/- The chapter's examples of layer 5. -/
import Derived.Test.YtmldonbmjgelnaaDoorOf
import Derived.Test.YtmldonbmjgelnaaDoorMEnc
set_option linter.unusedSimpArgs false
set_option linter.unusedVariables false
namespace Go.Proofs.YtmldonbmjgelnaaDoor
open Go.RowKit Pl

def four : List (Bs × Int) := [([97], 1), ([98], 1), ([99], 1), ([100], 1)]
theorem four_ok : chkM four = true := by decide
theorem four_tot : totM four = 4 := by decide
theorem four_quo : quoM four = 3 := by decide
theorem four_most : mostM four = 1 := by decide
theorem four_of : ofM four [[98], [122], [98]] = 1 := by decide

set_option maxRecDepth 100000 in
set_option maxHeartbeats 400000 in
theorem works5_any (w : World) (hk : KT w) :
    Calls Tryd.prog 27 #[] w fun e w' => e = .returned (.bool true) ∧ Below w.heap.size w w' := by
  go_enter Tryd.func27, Tryd.ntmps27
  have hM : MS (w.alloc (.cells #[.string ⟨List.toArray ([97])⟩, .int .i64 (1), .string ⟨List.toArray ([98])⟩, .int .i64 (1), .string ⟨List.toArray ([99])⟩, .int .i64 (1), .string ⟨List.toArray ([100])⟩, .int .i64 (1)] 63)) (.slice (some ⟨w.heap.size, 0, none⟩) 4 4) four := by
    refine ⟨some ⟨w.heap.size, 0, none⟩, 4, rfl, by decide, by unfold maxLen; omega, fun _ => ⟨w.heap.size, 0, rfl, by simp, fun i hi => ?_⟩⟩
    have hi4 : i < 4 := hi
    rcases (show i = 0 ∨ i = 1 ∨ i = 2 ∨ i = 3 from by omega) with rfl | rfl | rfl | rfl <;> exact ⟨by simp [four], by simp [four]⟩
  have hb0 : Below w.heap.size w (w.alloc (.cells #[.string ⟨List.toArray ([97])⟩, .int .i64 (1), .string ⟨List.toArray ([98])⟩, .int .i64 (1), .string ⟨List.toArray ([99])⟩, .int .i64 (1), .string ⟨List.toArray ([100])⟩, .int .i64 (1)] 63)) := Below.allocS (Below.refl _ _) _
  go_wp2_with fail
  refine (mcheck_any _ four _ hM).mono ?_
  rintro e w1 ⟨rfl, hb⟩
  have M1 := hM.keep hb
  have hb1 := hb0.trans (hb.mono hb0.size)
  clear hM hb0 hb
  rw [four_ok]
  unfold setI
  go_wp2_with fail
  refine (mtotal_any _ four _ M1).mono ?_
  rintro e w2 ⟨rfl, hb⟩
  have M2 := M1.keep hb
  have hb2 := hb1.trans (hb.mono hb1.size)
  clear M1 hb1 hb
  rw [four_tot]
  go_wp2_with fail
  refine (mquorum_any _ four _ M2).mono ?_
  rintro e w3 ⟨rfl, hb⟩
  have M3 := M2.keep hb
  have hb3 := hb2.trans (hb.mono hb2.size)
  clear M2 hb2 hb
  rw [four_quo]
  go_wp2_with fail
  refine (mmost_any _ four _ M3).mono ?_
  rintro e w4 ⟨rfl, hb⟩
  have M4 := M3.keep hb
  have hb4 := hb3.trans (hb.mono hb3.size)
  clear M3 hb3 hb
  rw [four_most]
  go_wp2_with fail
  have hU : SS (w4.alloc (.cells #[.string ⟨List.toArray ([98])⟩, .string ⟨List.toArray ([122])⟩, .string ⟨List.toArray ([98])⟩] 9)) (.slice (some ⟨w4.heap.size, 0, none⟩) 3 3) [[98], [122], [98]] := by
    refine SS.of (l := [[98], [122], [98]]) (by decide) (by unfold maxLen; omega) (by simp) (fun i hi => ?_)
    have hi3 : i < 3 := hi
    rcases (show i = 0 ∨ i = 1 ∨ i = 2 from by omega) with rfl | rfl | rfl <;> simp
  have hb5 := Below.allocS hb4 (.cells #[.string ⟨List.toArray ([98])⟩, .string ⟨List.toArray ([122])⟩, .string ⟨List.toArray ([98])⟩] 9)
  have M5 := M4.keep (Below.allocS (Below.refl _ _) (.cells #[.string ⟨List.toArray ([98])⟩, .string ⟨List.toArray ([122])⟩, .string ⟨List.toArray ([98])⟩] 9))
  refine (mof_any _ _ four [[98], [122], [98]] (by decide) (fun i hi => by
    have hi3 : i < 3 := hi
    unfold maxLen
    rcases (show i = 0 ∨ i = 1 ∨ i = 2 from by omega) with rfl | rfl | rfl <;> simp) _ M5 hU).mono ?_
  rintro e w6 ⟨rfl, hb⟩
  have M6 := M5.keep hb
  have hb6 := hb5.trans (hb.mono hb5.size)
  rw [four_of]
  have hdl : (dgM four).length = 32 := by rw [dgM, if_pos four_ok]; exact tagP_len _ _
  go_wp2_with fail
  refine (mdigest_any _ four _ M6 (hk.keep hb6)).mono ?_
  rintro e w7 ⟨rfl, hb7⟩
  generalize dgM four = d at *
  have hdi : (d.length : Int) = 32 := by omega
  go_wp2_with fail
  all_goals (go_ret; exact ⟨rfl, hb6.trans (hb7.mono hb6.size)⟩)

end Go.Proofs.YtmldonbmjgelnaaDoor
