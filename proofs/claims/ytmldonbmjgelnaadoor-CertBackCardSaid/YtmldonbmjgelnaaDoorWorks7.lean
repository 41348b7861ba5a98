/- The chapter's example of layer 7. -/
import Derived.Test.YtmldonbmjgelnaaDoorGather
import Derived.Test.YtmldonbmjgelnaaDoorMarks
import Derived.Test.YtmldonbmjgelnaaDoorMWorks
set_option linter.unusedSimpArgs false
set_option linter.unusedVariables false
namespace Go.Proofs.YtmldonbmjgelnaaDoor
open Go.RowKit Pl

def lA (m : Bs) : List Sg := [([97], m, true)]
def lB (m : Bs) : List Sg := [([97], m, true), ([98], m, true)]
def lD (m : Bs) : List Sg := [([97], m, true), ([98], m, true), ([100], m, true)]
theorem may_ab : mayC dig7 [[97], [98]] = true := by decide
theorem may_abd : mayC dig7 [[97], [98], [100]] = true := by decide
theorem first5 (b : Bool) : firstC 5 four b = if b then 0 else 3 := by cases b <;> decide
theorem first6 (b : Bool) : firstC 6 four b = if b then 0 else 3 := by cases b <;> decide
theorem chkA_ab : chkA four [[97], [98]] = true := by decide
theorem chkA_abd : chkA four [[97], [98], [100]] = true := by decide
theorem few7 (m : Bs) (hm : tagP 5 dig7 = m) : goodC 5 four dig7 [[97], [98]] (lB m) = 71 := by
  rw [goodC_in (by rw [may_ab, first5]; rfl)]
  unfold goodIn
  rw [chkA_ab]
  have h : chkB (lB m) (tagP (5 : Int).toNat dig7) [[97], [98]] = true := by
    rw [show (5 : Int).toNat = 5 from rfl, hm]
    simp [chkB, isIn, lB, keyOfS]
  rw [h]
  decide
theorem all7 (m : Bs) (hm : tagP 5 dig7 = m) : gathC 5 four dig7 (lD m) = ((dig7, [[97], [98], [100]]), 0) := by
  rw [gathC_in (by rw [show decide (dig7.length = 32) = true from by decide, first5]; rfl)]
  unfold gathIn
  have h : selN (lD m) (tagP (5 : Int).toNat dig7) four = [[97], [98], [100]] := by
    rw [show (5 : Int).toNat = 5 from rfl, hm]
    simp [selN, four, isIn, lD, keyOfS]
  rw [h]
  have h2 : ¬ ofM four [[97], [98], [100]] < quoM four := by decide
  rw [if_neg h2]
theorem good7 (m : Bs) (hm : tagP 5 dig7 = m) : goodC 5 four dig7 [[97], [98], [100]] (lD m) = 0 := by
  rw [goodC_in (by rw [may_abd, first5]; rfl)]
  unfold goodIn
  rw [chkA_abd]
  have h : chkB (lD m) (tagP (5 : Int).toNat dig7) [[97], [98], [100]] = true := by
    rw [show (5 : Int).toNat = 5 from rfl, hm]
    simp [chkB, isIn, lD, keyOfS]
  rw [h]
  decide
theorem bad7 (m : Bs) (hm : tagP 5 dig7 = m) : goodC 6 four dig7 [[97], [98], [100]] (lD m) = 70 := by
  rw [goodC_in (by rw [may_abd, first6]; rfl)]
  unfold goodIn
  rw [chkA_abd]
  have hne : ¬ tagP 6 dig7 = m := by rw [← hm]; exact fun h => marks_differ h.symm
  have h : chkB (lD m) (tagP (6 : Int).toNat dig7) [[97], [98], [100]] = false := by
    rw [show (6 : Int).toNat = 6 from rfl]
    generalize tagP 6 dig7 = n at *
    simp [chkB, isIn, lD, keyOfS, hne]
  rw [h]
  decide

theorem sametexts_selfB (u v : Value) (l : List Bs) (w : World) (hu : SS w u l) (hv : SS w v l) :
    Calls Tryd.prog 22 #[u, v] w fun e w' => e = .returned (.bool true) ∧ Below w.heap.size w w' :=
  (sametexts_self u v l w hu hv).mono fun _ _ ⟨h, n, e⟩ => ⟨h, e ▸ below_drewN (Below.refl _ _) n⟩
theorem MS.below {W w : World} {B g o n c : Nat} {l : List (Bs × Int)} (h : MS W (.slice (some ⟨g, o, none⟩) n c) l) (hb : Below B W w) (hg : g < B) : MS w (.slice (some ⟨g, o, none⟩) n c) l := by
  obtain ⟨a, cap, h1, h2, h3, h4⟩ := h
  refine ⟨a, cap, h1, h2, h3, fun hl => ?_⟩
  obtain ⟨g', off, e, hg', hc⟩ := h4 hl
  injection h1 with h1 _ _
  rw [e] at h1
  injection h1 with h1
  injection h1 with h1 h5 _
  subst h1
  exact ⟨g, off, e, Nat.lt_of_lt_of_le hg' hb.size, fun i hi => ⟨(hb.cell (p := ⟨g, off + i * 2, none⟩) hg).trans (hc i hi).1, (hb.cell (p := ⟨g, off + i * 2 + 1, none⟩) hg).trans (hc i hi).2⟩⟩

set_option maxRecDepth 100000 in
set_option maxHeartbeats 1000000 in
theorem works7_any (w : World) (hk : KT w) :
    Calls Tryd.prog 39 #[] w fun e w' => e = .returned (.bool true) ∧ Below w.heap.size w w' := by
  go_enter Tryd.func39, Tryd.ntmps39
  have hM : MS (w.alloc (.cells #[.string ⟨List.toArray ([97])⟩, .int .i64 (1), .string ⟨List.toArray ([98])⟩, .int .i64 (1), .string ⟨List.toArray ([99])⟩, .int .i64 (1), .string ⟨List.toArray ([100])⟩, .int .i64 (1)] 63)) (.slice (some ⟨w.heap.size, 0, none⟩) 4 4) four := by
    refine ⟨some ⟨w.heap.size, 0, none⟩, 4, rfl, by decide, by unfold maxLen; omega, fun _ => ⟨w.heap.size, 0, rfl, by simp, fun i hi => ?_⟩⟩
    have hi4 : i < 4 := hi
    rcases (show i = 0 ∨ i = 1 ∨ i = 2 ∨ i = 3 from by omega) with rfl | rfl | rfl | rfl <;> exact ⟨by simp [four], by simp [four]⟩
  have hb0 : Below w.heap.size w (w.alloc (.cells #[.string ⟨List.toArray ([97])⟩, .int .i64 (1), .string ⟨List.toArray ([98])⟩, .int .i64 (1), .string ⟨List.toArray ([99])⟩, .int .i64 (1), .string ⟨List.toArray ([100])⟩, .int .i64 (1)] 63)) := Below.allocS (Below.refl _ _) _
  go_wp2_with fail
  refine (onew_any _).mono ?_
  rintro e w1 ⟨rfl, T1, hb⟩
  replace T1 : Tab w1 (w.heap.size + 1) (w.heap.size + 1 + 1) [] := by simpa using T1
  have M1 := hM.keep hb
  have hb1 := hb0.trans (hb.mono hb0.size)
  clear hM hb0 hb
  have hmk : markP 5 dig7 = (tagP 5 dig7, 0) := by rw [markP, if_neg (by decide), if_neg (by decide)]; rfl
  have hmark := cmark_any 5 dig7 (by decide) _ (hk.keep hb1)
  rw [hmk] at hmark
  have HMA := Lib.hid hmark
  have hml : (tagP 5 dig7).length = 32 := tagP_len _ _
  generalize hm5 : tagP 5 dig7 = m at *
  have HM5 := Lib.hid hm5
  have hmi : ((m.length : Int) != 32) = false := by simp; omega
  have HML := Lib.hid hml
  clear hm5 hml hmk hmark
  unfold dig7 at HMA
  go_wp2_with fail
  refine HMA.out.mono ?_
  rintro e w2 ⟨rfl, hb⟩
  have M2 := M1.keep hb
  have T2 := T1.keep hb
  have hb2 := hb1.trans (hb.mono hb1.size)
  clear M1 T1 hb1 hb
  go_wp2_with fail
  refine (osign_new (w.heap.size + 1) (w.heap.size + 1 + 1) [] [97] m true (by simp) (by simp) HML.out (by simp) (by simp [isIn]) _ T2).mono ?_
  rintro e w3 ⟨rfl, T3, hb⟩
  have M3 := M2.below hb (by omega)
  have hb3 := hb2.trans (hb.mono (by omega))
  clear M2 T2 hb2 hb
  go_wp2_with fail
  refine (osign_new (w.heap.size + 1) (w.heap.size + 1 + 1) _ [98] m true (by simp) (by simp) HML.out (by simp) (by simp [isIn, keyOfS]) _ T3).mono ?_
  rintro e w4 ⟨rfl, T4, hb⟩
  have M4 := M3.below hb (by omega)
  have hb4 := hb3.trans (hb.mono (by omega))
  clear M3 T3 hb3 hb
  replace T4 : Tab w4 (w.heap.size + 1) (w.heap.size + 1 + 1) (lB m) := T4
  have hb5 := Below.allocS hb4 (.cells #[.string ⟨List.toArray ([97])⟩, .string ⟨List.toArray ([98])⟩] 9)
  have hx5 : Below w4.heap.size w4 (w4.alloc (.cells #[.string ⟨List.toArray ([97])⟩, .string ⟨List.toArray ([98])⟩] 9)) := Below.allocS (Below.refl _ _) _
  have M5 := M4.keep hx5
  have T5 := T4.keep hx5
  have hS2 : SS (w4.alloc (.cells #[.string ⟨List.toArray ([97])⟩, .string ⟨List.toArray ([98])⟩] 9)) (.slice (some ⟨w4.heap.size, 0, none⟩) 2 2) [[97], [98]] := by
    refine SS.of (l := [[97], [98]]) (by decide) (by unfold maxLen; omega) (by simp) (fun i hi => ?_)
    have hi3 : i < 2 := hi
    rcases (show i = 0 ∨ i = 1 from by omega) with rfl | rfl <;> simp
  have hfew := ccheck_any 5 _ (.agg #[.string ⟨List.toArray (dig7)⟩, .slice (some ⟨w4.heap.size, 0, none⟩) 2 2]) four dig7 [[97], [98]] (w.heap.size + 1) (w.heap.size + 1 + 1) (lB m) _ M5 ⟨_, rfl, hS2⟩ T5 (hk.keep hb5)
  rw [few7 m HM5.out] at hfew
  have HFE := Lib.hid hfew
  clear hfew hx5 M4 T4 hb4
  unfold dig7 at HFE
  go_wp2_with fail
  refine HFE.out.mono ?_
  rintro e w6 ⟨rfl, hb⟩
  have M6 := M5.keep hb
  have T6 := T5.keep hb
  have hb6 := hb5.trans (hb.mono hb5.size)
  clear M5 T5 hb5 hb HFE hS2
  go_wp2_with fail
  refine (osign_new (w.heap.size + 1) (w.heap.size + 1 + 1) (lB m) [100] m true (by simp) (by simp) HML.out (by simp [lB]) (by simp [isIn, lB, keyOfS]) _ T6).mono ?_
  rintro e w7 ⟨rfl, T7, hb⟩
  have M7 := M6.below hb (by omega)
  have hb7 := hb6.trans (hb.mono (by omega))
  clear M6 T6 hb6 hb
  replace T7 : Tab w7 (w.heap.size + 1) (w.heap.size + 1 + 1) (lD m) := T7
  have hga := cgather_any 5 _ four dig7 (w.heap.size + 1) (w.heap.size + 1 + 1) (lD m) (by decide) _ M7 T7 (hk.keep hb7)
  rw [all7 m HM5.out] at hga
  have HGA := Lib.hid hga
  clear hga
  unfold dig7 at HGA
  go_wp2_with fail
  refine HGA.out.mono ?_
  rintro e w8 ⟨u, rfl, hS8, hb⟩
  have M8 := M7.keep hb
  have T8 := T7.keep hb
  have hb8 := hb7.trans (hb.mono hb7.size)
  clear M7 T7 hb7 hb HGA
  obtain ⟨ua, uc, rfl⟩ := hS8.form
  go_wp2_with fail
  have hx : Below w8.heap.size w8 ((w8.alloc (.cells #[.string ⟨List.toArray ([97, 32, 100, 105, 103, 101, 115, 116, 44, 32, 116, 104, 105, 114, 116, 121, 45, 116, 119, 111, 32, 98, 121, 116, 101, 115, 32, 111, 102, 32, 105, 116])⟩, .slice ua 3 uc] 51)).alloc (.cells #[.string ⟨List.toArray ([97])⟩, .string ⟨List.toArray ([98])⟩, .string ⟨List.toArray ([100])⟩] 9)) := Below.allocS (Below.allocS (Below.refl _ _) _) _
  have C9 := (Blk.new w8 #[.string ⟨List.toArray ([97, 32, 100, 105, 103, 101, 115, 116, 44, 32, 116, 104, 105, 114, 116, 121, 45, 116, 119, 111, 32, 98, 121, 116, 101, 115, 32, 111, 102, 32, 105, 116])⟩, .slice ua 3 uc] 51).alloc (.cells #[.string ⟨List.toArray ([97])⟩, .string ⟨List.toArray ([98])⟩, .string ⟨List.toArray ([100])⟩] 9)
  have S9 : SS ((w8.alloc (.cells #[.string ⟨List.toArray ([97, 32, 100, 105, 103, 101, 115, 116, 44, 32, 116, 104, 105, 114, 116, 121, 45, 116, 119, 111, 32, 98, 121, 116, 101, 115, 32, 111, 102, 32, 105, 116])⟩, .slice ua 3 uc] 51)).alloc (.cells #[.string ⟨List.toArray ([97])⟩, .string ⟨List.toArray ([98])⟩, .string ⟨List.toArray ([100])⟩] 9)) (.slice (some ⟨w8.heap.size + 1, 0, none⟩) 3 3) [[97], [98], [100]] := by
    refine SS.of (l := [[97], [98], [100]]) (by decide) (by unfold maxLen; omega) (by simp) (fun i hi => ?_)
    have hi3 : i < 3 := hi
    rcases (show i = 0 ∨ i = 1 ∨ i = 2 from by omega) with rfl | rfl | rfl
    · exact (Blk.new' (cs := #[.string ⟨List.toArray ([97])⟩, .string ⟨List.toArray ([98])⟩, .string ⟨List.toArray ([100])⟩]) (t := 9) (by simp)).cell 0
    · exact (Blk.new' (cs := #[.string ⟨List.toArray ([97])⟩, .string ⟨List.toArray ([98])⟩, .string ⟨List.toArray ([100])⟩]) (t := 9) (by simp)).cell 1
    · exact (Blk.new' (cs := #[.string ⟨List.toArray ([97])⟩, .string ⟨List.toArray ([98])⟩, .string ⟨List.toArray ([100])⟩]) (t := 9) (by simp)).cell 2
  have U9 : SS w8 (.slice ua 3 uc) [[97], [98], [100]] := hS8.ss
  replace U9 := U9.keep hx
  have M9 := M8.keep hx
  have T9 := T8.keep hx
  have hb9 := hb8.trans (hx.mono hb8.size)
  clear hS8 hx M8 T8 hb8
  refine (sametexts_selfB _ _ _ _ U9 S9).mono ?_
  rintro e w10 ⟨rfl, hx⟩
  have M10 := M9.keep hx
  have T10 := T9.keep hx
  have U10 := U9.keep hx
  have C10 := C9.keep hx
  have hb10 := hb9.trans (hx.mono hb9.size)
  have hgood := ccheck_any 5 _ (.agg #[.string ⟨List.toArray (dig7)⟩, .slice ua 3 uc]) four dig7 [[97], [98], [100]] (w.heap.size + 1) (w.heap.size + 1 + 1) (lD m) _ M10 ⟨_, rfl, U10⟩ T10 (hk.keep hb10)
  rw [good7 m HM5.out] at hgood
  have HGO := Lib.hid hgood
  unfold dig7 at HGO
  clear hgood M9 T9 U9 C9 hb9 S9 hx
  obtain ⟨b1, b2, b3⟩ := id C10
  go_wp2_with fail
  refine HGO.out.mono ?_
  rintro e w11 ⟨rfl, hb⟩
  have M11 := M10.keep hb
  have T11 := T10.keep hb
  have U11 := U10.keep hb
  have C11 := C10.keep hb
  have hb11 := hb10.trans (hb.mono hb10.size)
  clear HGO M10 T10 U10 C10 hb10 hb b1 b2 b3
  have hbad := ccheck_any 6 _ (.agg #[.string ⟨List.toArray (dig7)⟩, .slice ua 3 uc]) four dig7 [[97], [98], [100]] (w.heap.size + 1) (w.heap.size + 1 + 1) (lD m) _ M11 ⟨_, rfl, U11⟩ T11 (hk.keep hb11)
  rw [bad7 m HM5.out] at hbad
  have HBA := Lib.hid hbad
  unfold dig7 at HBA
  clear hbad
  obtain ⟨b1, b2, b3⟩ := id C11
  go_wp2_with fail
  refine HBA.out.mono ?_
  rintro e w12 ⟨rfl, hb⟩
  go_wp2_with fail
  all_goals (go_ret; exact ⟨rfl, hb11.trans (hb.mono hb11.size)⟩)
end Go.Proofs.YtmldonbmjgelnaaDoor
