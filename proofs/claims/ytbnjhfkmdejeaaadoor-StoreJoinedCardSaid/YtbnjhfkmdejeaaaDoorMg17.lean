/- Works7, More, SVal, Laid. -/
import Derived.Test.YtbnjhfkmdejeaaaDoorRows
import Derived.ProofKit
import Derived.LaidMore
import Derived.Stop.Joined
import Derived.Test.YtbnjhfkmdejeaaaDoorMg4
import Derived.Test.YtbnjhfkmdejeaaaDoorMg11
import Derived.Test.YtbnjhfkmdejeaaaDoorMg12
import Derived.Test.YtbnjhfkmdejeaaaDoorMg13
import Derived.Test.YtbnjhfkmdejeaaaDoorMg14
import Derived.Test.YtbnjhfkmdejeaaaDoorMg15
import Derived.Test.YtbnjhfkmdejeaaaDoorMg16
set_option linter.unnecessarySimpa false

/- The chapter's example of layer 7. -/
set_option linter.unusedSimpArgs false
set_option linter.unusedVariables false
namespace Go.Proofs.YtbnjhfkmdejeaaaDoor
open Go.RowKit Pl

def lA (m : Bs) : List Sg := [([97], m, true)]
def lB (m : Bs) : List Sg := [([97], m, true), ([98], m, true)]
def lD (m : Bs) : List Sg := [([97], m, true), ([98], m, true), ([100], m, true)]
theorem may_ab : mayC dig7 [[97], [98]] = true := by decide
theorem may_abd : mayC dig7 [[97], [98], [100]] = true := by decide
theorem first5 (b : Bool) : firstC 5 four b = if b then 0 else 3 := by cases b <;> decide
theorem first6 (b : Bool) : firstC 6 four b = if b then 0 else 3 := by cases b <;> decide
theorem chkA_ab : chkA four [[97], [98]] = true := by decide
theorem chkA_abd : chkA four [[97], [98], [100]] = true := by decide
theorem few7 (m : Bs) (hm : tagP 5 dig7 = m) : goodC 5 four dig7 [[97], [98]] (lB m) = 71 := by
  rw [goodC_in (by rw [may_ab, first5]; rfl)]
  unfold goodIn
  rw [chkA_ab]
  have h : chkB (lB m) (tagP (5 : Int).toNat dig7) [[97], [98]] = true := by
    rw [show (5 : Int).toNat = 5 from rfl, hm]
    simp [chkB, isIn, lB, keyOfS]
  rw [h]
  decide
theorem all7 (m : Bs) (hm : tagP 5 dig7 = m) : gathC 5 four dig7 (lD m) = ((dig7, [[97], [98], [100]]), 0) := by
  rw [gathC_in (by rw [show decide (dig7.length = 32) = true from by decide, first5]; rfl)]
  unfold gathIn
  have h : selN (lD m) (tagP (5 : Int).toNat dig7) four = [[97], [98], [100]] := by
    rw [show (5 : Int).toNat = 5 from rfl, hm]
    simp [selN, four, isIn, lD, keyOfS]
  rw [h]
  have h2 : ¬ ofM four [[97], [98], [100]] < quoM four := by decide
  rw [if_neg h2]
theorem good7 (m : Bs) (hm : tagP 5 dig7 = m) : goodC 5 four dig7 [[97], [98], [100]] (lD m) = 0 := by
  rw [goodC_in (by rw [may_abd, first5]; rfl)]
  unfold goodIn
  rw [chkA_abd]
  have h : chkB (lD m) (tagP (5 : Int).toNat dig7) [[97], [98], [100]] = true := by
    rw [show (5 : Int).toNat = 5 from rfl, hm]
    simp [chkB, isIn, lD, keyOfS]
  rw [h]
  decide
theorem bad7 (m : Bs) (hm : tagP 5 dig7 = m) : goodC 6 four dig7 [[97], [98], [100]] (lD m) = 70 := by
  rw [goodC_in (by rw [may_abd, first6]; rfl)]
  unfold goodIn
  rw [chkA_abd]
  have hne : ¬ tagP 6 dig7 = m := by rw [← hm]; exact fun h => marks_differ h.symm
  have h : chkB (lD m) (tagP (6 : Int).toNat dig7) [[97], [98], [100]] = false := by
    rw [show (6 : Int).toNat = 6 from rfl]
    generalize tagP 6 dig7 = n at *
    simp [chkB, isIn, lD, keyOfS, hne]
  rw [h]
  decide

theorem sametexts_selfB (u v : Value) (l : List Bs) (w : World) (hu : SS w u l) (hv : SS w v l) :
    Calls Tryd.prog 38 #[u, v] w fun e w' => e = .returned (.bool true) ∧ Below w.heap.size w w' :=
  (sametexts_self u v l w hu hv).mono fun _ _ ⟨h, n, e⟩ => ⟨h, e ▸ below_drewN (Below.refl _ _) n⟩
theorem MS.below {W w : World} {B g o n c : Nat} {l : List (Bs × Int)} (h : MS W (.slice (some ⟨g, o, none⟩) n c) l) (hb : Below B W w) (hg : g < B) : MS w (.slice (some ⟨g, o, none⟩) n c) l := by
  obtain ⟨a, cap, h1, h2, h3, h4⟩ := h
  refine ⟨a, cap, h1, h2, h3, fun hl => ?_⟩
  obtain ⟨g', off, e, hg', hc⟩ := h4 hl
  injection h1 with h1 _ _
  rw [e] at h1
  injection h1 with h1
  injection h1 with h1 h5 _
  subst h1
  exact ⟨g, off, e, Nat.lt_of_lt_of_le hg' hb.size, fun i hi => ⟨(hb.cell (p := ⟨g, off + i * 2, none⟩) hg).trans (hc i hi).1, (hb.cell (p := ⟨g, off + i * 2 + 1, none⟩) hg).trans (hc i hi).2⟩⟩

set_option maxRecDepth 100000 in
set_option maxHeartbeats 1000000 in
theorem works7_any (w : World) (hk : KT w) :
    Calls Tryd.prog 11 #[] w fun e w' => e = .returned (.bool true) ∧ Below w.heap.size w w' := by
  go_enter Tryd.func11, Tryd.ntmps11
  have hM : MS (w.alloc (.cells #[.string ⟨List.toArray ([97])⟩, .int .i64 (1), .string ⟨List.toArray ([98])⟩, .int .i64 (1), .string ⟨List.toArray ([99])⟩, .int .i64 (1), .string ⟨List.toArray ([100])⟩, .int .i64 (1)] 77)) (.slice (some ⟨w.heap.size, 0, none⟩) 4 4) four := by
    refine ⟨some ⟨w.heap.size, 0, none⟩, 4, rfl, by decide, by unfold maxLen; omega, fun _ => ⟨w.heap.size, 0, rfl, by simp, fun i hi => ?_⟩⟩
    have hi4 : i < 4 := hi
    rcases (show i = 0 ∨ i = 1 ∨ i = 2 ∨ i = 3 from by omega) with rfl | rfl | rfl | rfl <;> exact ⟨by simp [four], by simp [four]⟩
  have hb0 : Below w.heap.size w (w.alloc (.cells #[.string ⟨List.toArray ([97])⟩, .int .i64 (1), .string ⟨List.toArray ([98])⟩, .int .i64 (1), .string ⟨List.toArray ([99])⟩, .int .i64 (1), .string ⟨List.toArray ([100])⟩, .int .i64 (1)] 77)) := Below.allocS (Below.refl _ _) _
  go_wp2_with fail
  refine (onew_any _).mono ?_
  rintro e w1 ⟨rfl, T1, hb⟩
  replace T1 : Tab w1 (w.heap.size + 1) (w.heap.size + 1 + 1) [] := by simpa using T1
  have M1 := hM.keep hb
  have hb1 := hb0.trans (hb.mono hb0.size)
  clear hM hb0 hb
  have hmk : markP 5 dig7 = (tagP 5 dig7, 0) := by rw [markP, if_neg (by decide), if_neg (by decide)]; rfl
  have hmark := cmark_any 5 dig7 (by decide) _ (hk.keep hb1)
  rw [hmk] at hmark
  have HMA := Lib.hid hmark
  have hml : (tagP 5 dig7).length = 32 := tagP_len _ _
  generalize hm5 : tagP 5 dig7 = m at *
  have HM5 := Lib.hid hm5
  have hmi : ((m.length : Int) != 32) = false := by simp; omega
  have HML := Lib.hid hml
  clear hm5 hml hmk hmark
  unfold dig7 at HMA
  go_wp2_with fail
  refine HMA.out.mono ?_
  rintro e w2 ⟨rfl, hb⟩
  have M2 := M1.keep hb
  have T2 := T1.keep hb
  have hb2 := hb1.trans (hb.mono hb1.size)
  clear M1 T1 hb1 hb
  go_wp2_with fail
  refine (osign_new (w.heap.size + 1) (w.heap.size + 1 + 1) [] [97] m true (by simp) (by simp) HML.out (by simp) (by simp [isIn]) _ T2).mono ?_
  rintro e w3 ⟨rfl, T3, hb⟩
  have M3 := M2.below hb (by omega)
  have hb3 := hb2.trans (hb.mono (by omega))
  clear M2 T2 hb2 hb
  go_wp2_with fail
  refine (osign_new (w.heap.size + 1) (w.heap.size + 1 + 1) _ [98] m true (by simp) (by simp) HML.out (by simp) (by simp [isIn, keyOfS]) _ T3).mono ?_
  rintro e w4 ⟨rfl, T4, hb⟩
  have M4 := M3.below hb (by omega)
  have hb4 := hb3.trans (hb.mono (by omega))
  clear M3 T3 hb3 hb
  replace T4 : Tab w4 (w.heap.size + 1) (w.heap.size + 1 + 1) (lB m) := T4
  have hb5 := Below.allocS hb4 (.cells #[.string ⟨List.toArray ([97])⟩, .string ⟨List.toArray ([98])⟩] 9)
  have hx5 : Below w4.heap.size w4 (w4.alloc (.cells #[.string ⟨List.toArray ([97])⟩, .string ⟨List.toArray ([98])⟩] 9)) := Below.allocS (Below.refl _ _) _
  have M5 := M4.keep hx5
  have T5 := T4.keep hx5
  have hS2 : SS (w4.alloc (.cells #[.string ⟨List.toArray ([97])⟩, .string ⟨List.toArray ([98])⟩] 9)) (.slice (some ⟨w4.heap.size, 0, none⟩) 2 2) [[97], [98]] := by
    refine SS.of (l := [[97], [98]]) (by decide) (by unfold maxLen; omega) (by simp) (fun i hi => ?_)
    have hi3 : i < 2 := hi
    rcases (show i = 0 ∨ i = 1 from by omega) with rfl | rfl <;> simp
  have hfew := ccheck_any 5 _ (.agg #[.string ⟨List.toArray (dig7)⟩, .slice (some ⟨w4.heap.size, 0, none⟩) 2 2]) four dig7 [[97], [98]] (w.heap.size + 1) (w.heap.size + 1 + 1) (lB m) _ M5 ⟨_, rfl, hS2⟩ T5 (hk.keep hb5)
  rw [few7 m HM5.out] at hfew
  have HFE := Lib.hid hfew
  clear hfew hx5 M4 T4 hb4
  unfold dig7 at HFE
  go_wp2_with fail
  refine HFE.out.mono ?_
  rintro e w6 ⟨rfl, hb⟩
  have M6 := M5.keep hb
  have T6 := T5.keep hb
  have hb6 := hb5.trans (hb.mono hb5.size)
  clear M5 T5 hb5 hb HFE hS2
  go_wp2_with fail
  refine (osign_new (w.heap.size + 1) (w.heap.size + 1 + 1) (lB m) [100] m true (by simp) (by simp) HML.out (by simp [lB]) (by simp [isIn, lB, keyOfS]) _ T6).mono ?_
  rintro e w7 ⟨rfl, T7, hb⟩
  have M7 := M6.below hb (by omega)
  have hb7 := hb6.trans (hb.mono (by omega))
  clear M6 T6 hb6 hb
  replace T7 : Tab w7 (w.heap.size + 1) (w.heap.size + 1 + 1) (lD m) := T7
  have hga := cgather_any 5 _ four dig7 (w.heap.size + 1) (w.heap.size + 1 + 1) (lD m) (by decide) _ M7 T7 (hk.keep hb7)
  rw [all7 m HM5.out] at hga
  have HGA := Lib.hid hga
  clear hga
  unfold dig7 at HGA
  go_wp2_with fail
  refine HGA.out.mono ?_
  rintro e w8 ⟨u, rfl, hS8, hb⟩
  have M8 := M7.keep hb
  have T8 := T7.keep hb
  have hb8 := hb7.trans (hb.mono hb7.size)
  clear M7 T7 hb7 hb HGA
  obtain ⟨ua, uc, rfl⟩ := hS8.form
  go_wp2_with fail
  have hx : Below w8.heap.size w8 ((w8.alloc (.cells #[.string ⟨List.toArray ([97, 32, 100, 105, 103, 101, 115, 116, 44, 32, 116, 104, 105, 114, 116, 121, 45, 116, 119, 111, 32, 98, 121, 116, 101, 115, 32, 111, 102, 32, 105, 116])⟩, .slice ua 3 uc] 28)).alloc (.cells #[.string ⟨List.toArray ([97])⟩, .string ⟨List.toArray ([98])⟩, .string ⟨List.toArray ([100])⟩] 9)) := Below.allocS (Below.allocS (Below.refl _ _) _) _
  have C9 := (Blk.new w8 #[.string ⟨List.toArray ([97, 32, 100, 105, 103, 101, 115, 116, 44, 32, 116, 104, 105, 114, 116, 121, 45, 116, 119, 111, 32, 98, 121, 116, 101, 115, 32, 111, 102, 32, 105, 116])⟩, .slice ua 3 uc] 28).alloc (.cells #[.string ⟨List.toArray ([97])⟩, .string ⟨List.toArray ([98])⟩, .string ⟨List.toArray ([100])⟩] 9)
  have S9 : SS ((w8.alloc (.cells #[.string ⟨List.toArray ([97, 32, 100, 105, 103, 101, 115, 116, 44, 32, 116, 104, 105, 114, 116, 121, 45, 116, 119, 111, 32, 98, 121, 116, 101, 115, 32, 111, 102, 32, 105, 116])⟩, .slice ua 3 uc] 28)).alloc (.cells #[.string ⟨List.toArray ([97])⟩, .string ⟨List.toArray ([98])⟩, .string ⟨List.toArray ([100])⟩] 9)) (.slice (some ⟨w8.heap.size + 1, 0, none⟩) 3 3) [[97], [98], [100]] := by
    refine SS.of (l := [[97], [98], [100]]) (by decide) (by unfold maxLen; omega) (by simp) (fun i hi => ?_)
    have hi3 : i < 3 := hi
    rcases (show i = 0 ∨ i = 1 ∨ i = 2 from by omega) with rfl | rfl | rfl
    · exact (Blk.new' (cs := #[.string ⟨List.toArray ([97])⟩, .string ⟨List.toArray ([98])⟩, .string ⟨List.toArray ([100])⟩]) (t := 9) (by simp)).cell 0
    · exact (Blk.new' (cs := #[.string ⟨List.toArray ([97])⟩, .string ⟨List.toArray ([98])⟩, .string ⟨List.toArray ([100])⟩]) (t := 9) (by simp)).cell 1
    · exact (Blk.new' (cs := #[.string ⟨List.toArray ([97])⟩, .string ⟨List.toArray ([98])⟩, .string ⟨List.toArray ([100])⟩]) (t := 9) (by simp)).cell 2
  have U9 : SS w8 (.slice ua 3 uc) [[97], [98], [100]] := hS8.ss
  replace U9 := U9.keep hx
  have M9 := M8.keep hx
  have T9 := T8.keep hx
  have hb9 := hb8.trans (hx.mono hb8.size)
  clear hS8 hx M8 T8 hb8
  refine (sametexts_selfB _ _ _ _ U9 S9).mono ?_
  rintro e w10 ⟨rfl, hx⟩
  have M10 := M9.keep hx
  have T10 := T9.keep hx
  have U10 := U9.keep hx
  have C10 := C9.keep hx
  have hb10 := hb9.trans (hx.mono hb9.size)
  have hgood := ccheck_any 5 _ (.agg #[.string ⟨List.toArray (dig7)⟩, .slice ua 3 uc]) four dig7 [[97], [98], [100]] (w.heap.size + 1) (w.heap.size + 1 + 1) (lD m) _ M10 ⟨_, rfl, U10⟩ T10 (hk.keep hb10)
  rw [good7 m HM5.out] at hgood
  have HGO := Lib.hid hgood
  unfold dig7 at HGO
  clear hgood M9 T9 U9 C9 hb9 S9 hx
  obtain ⟨b1, b2, b3⟩ := id C10
  go_wp2_with fail
  refine HGO.out.mono ?_
  rintro e w11 ⟨rfl, hb⟩
  have M11 := M10.keep hb
  have T11 := T10.keep hb
  have U11 := U10.keep hb
  have C11 := C10.keep hb
  have hb11 := hb10.trans (hb.mono hb10.size)
  clear HGO M10 T10 U10 C10 hb10 hb b1 b2 b3
  have hbad := ccheck_any 6 _ (.agg #[.string ⟨List.toArray (dig7)⟩, .slice ua 3 uc]) four dig7 [[97], [98], [100]] (w.heap.size + 1) (w.heap.size + 1 + 1) (lD m) _ M11 ⟨_, rfl, U11⟩ T11 (hk.keep hb11)
  rw [bad7 m HM5.out] at hbad
  have HBA := Lib.hid hbad
  unfold dig7 at HBA
  clear hbad
  obtain ⟨b1, b2, b3⟩ := id C11
  go_wp2_with fail
  refine HBA.out.mono ?_
  rintro e w12 ⟨rfl, hb⟩
  go_wp2_with fail
  all_goals (go_ret; exact ⟨rfl, hb11.trans (hb.mono hb11.size)⟩)
end Go.Proofs.YtbnjhfkmdejeaaaDoor

/- What is good stays so: the walk of CertMore. -/
set_option linter.unusedSimpArgs false
set_option linter.unusedVariables false
namespace Go.Proofs.YtbnjhfkmdejeaaaDoor
open Go.RowKit Pl

set_option maxRecDepth 100000 in
theorem cut_any (s : Bs) (n : Nat) (hs : s.length ≤ 9223372036854775807) (w : World) :
    Calls Tryd.prog 25 #[.string ⟨List.toArray (s)⟩, .int .i64 ((n : Int))] w fun e w' => e = .returned (.string ⟨List.toArray (s.take n)⟩) ∧ Below w.heap.size w w' := by
  by_cases h : n < s.length
  · have d : decide ((n : Int) < (s.length : Int)) = true := by simp; omega
    go_enter Tryd.func25, Tryd.ntmps25
    go_wp2_with fail
    all_goals (go_ret; exact ⟨by simp, Below.refl _ _⟩)
  · have d : decide ((n : Int) < (s.length : Int)) = false := by simp; omega
    go_enter Tryd.func25, Tryd.ntmps25
    go_wp2_with fail
    all_goals (go_ret; exact ⟨by rw [List.take_of_length_le (by omega)]; rfl, Below.refl _ _⟩)
/-- A digest. -/
def digP (t : Nat) (s : Bs) : Bs × Int := if t = 0 then ([], 1) else (tagP t s, 0)
theorem digP_len (t : Nat) (s : Bs) : (digP t s).1.length ≤ 32 := by
  unfold digP
  split
  · simp
  · exact Nat.le_of_eq (tagP_len _ _)
set_option maxRecDepth 100000 in
theorem digsum_any (t : Nat) (h2 : t ≤ 255) (s : Bs) (hs : s.length ≤ 1099511627000) (w : World) (hk : KT w) :
    Calls Tryd.prog 24 #[.int .i64 ((t : Int)), .string ⟨List.toArray (s)⟩] w fun e w' => e = .returned (.tuple #[.string ⟨List.toArray ((digP t s).1)⟩, .int .i64 ((digP t s).2)]) ∧ Below w.heap.size w w' := by
  by_cases h : t = 0
  · subst h
    rw [show digP 0 s = ([], 1) from rfl]
    go_enter Tryd.func24, Tryd.ntmps24
    go_wp2_with fail
    all_goals (go_ret2; exact ⟨rfl, Below.refl _ _⟩)
  · rw [show digP t s = (tagP t s, 0) from if_neg h]
    exact digsum_ok t (by omega) h2 s hs w hk

/-- The tag of a step behind: no less than one, of one byte. -/
def tagM (tag : Int) : Nat := (max tag 1 % 256).toNat
theorem tagM_le (tag : Int) : tagM tag ≤ 255 := by unfold tagM; omega
theorem tagM_eq (tag : Int) : (max tag 1).tmod 256 = ((tagM tag : Nat) : Int) := by
  rw [Int.tmod_eq_emod_of_nonneg (by omega)]
  unfold tagM
  omega

set_option maxRecDepth 100000 in
set_option maxHeartbeats 2000000 in
theorem more_any (mv sv cv tv : Value) (tag : Int) (l : List (Bs × Int)) (st more : List Stp) (d : Bs) (ns : List Bs) (w : World) (hm : MS w mv l) (hs : TS w sv st) (hss : TShort st) (hc : CV w cv d ns) (ht : TS w tv more) (hts : TShort more) (hk : KT w) :
    Calls Tryd.prog 4 #[.agg #[.int .i64 (tag), mv, sv], cv, tv] w fun e w' => e = .returned (.bool true) ∧ Below w.heap.size w w' := by
  obtain ⟨u, rfl, hu⟩ := hc
  obtain ⟨ua, uc, rfl⟩ := hu.form
  obtain ⟨ma, mc, rfl⟩ := hm.form
  obtain ⟨sa, sc, rfl⟩ := hs.form
  obtain ⟨ta, tc, rfl⟩ := ht.form
  have hlu := hu.small
  have hlt := ht.small
  have hb0 : Below w.heap.size w ((w.alloc (.cells #[.int .i64 (tag), .slice ma l.length mc, .slice sa st.length sc] 25)).alloc (.cells #[.string ⟨List.toArray (d)⟩, .slice ua ns.length uc] 28)) := Below.allocS (Below.allocS (Below.refl _ _) _) _
  have B0 : Blk ((w.alloc (.cells #[.int .i64 (tag), .slice ma l.length mc, .slice sa st.length sc] 25)).alloc (.cells #[.string ⟨List.toArray (d)⟩, .slice ua ns.length uc] 28)) w.heap.size #[.int .i64 (tag), .slice ma l.length mc, .slice sa st.length sc] := (Blk.new _ _ _).alloc _
  have C0 : Blk ((w.alloc (.cells #[.int .i64 (tag), .slice ma l.length mc, .slice sa st.length sc] 25)).alloc (.cells #[.string ⟨List.toArray (d)⟩, .slice ua ns.length uc] 28)) (w.heap.size + 1) #[.string ⟨List.toArray (d)⟩, .slice ua ns.length uc] := Blk.new' (by simp)
  have hT0 := table_any _ st hss _ (hs.keep hb0)
  have hW0 := works7_any _ (hk.keep hb0)
  have HM := Lib.hid hm
  have HU := Lib.hid hu
  have HT := Lib.hid ht
  have HTS := Lib.hid hts
  have HS := Lib.hid hs
  clear hm hu ht hts hs
  go_enter Tryd.func4, Tryd.ntmps4
  go_wp2_with fail
  refine hW0.mono ?_
  rintro e w1 ⟨rfl, hb⟩
  have hb1 := hb0.trans (hb.mono hb0.size)
  have B1 := B0.keep hb
  have C1 := C0.keep hb
  clear hT0 hW0 hb hb0 B0 C0
  obtain ⟨b1, b2, b3⟩ := id B1
  obtain ⟨c1, c2, c3⟩ := id C1
  have hT1 := table_any _ st hss _ (HS.out.keep hb1)
  go_wp2_with fail
  refine hT1.mono ?_
  rintro e w2 ⟨p, x, M, rfl, hT2, hGM, hP, hSo, hb⟩
  have hb2 := hb1.trans (hb.mono hb1.size)
  have B2 := B1.keep hb
  have C2 := C1.keep hb
  have hbs : w.heap.size + 1 < w1.heap.size := C1.lt
  obtain ⟨base, hbase⟩ : ∃ base, base = w1.heap.size := ⟨_, rfl⟩
  rw [← hbase] at hT2 hGM hb hbs
  clear hT1 hb B1 C1 b1 b2 b3 c1 c2 c3
  generalize stepsT (st.take 30) = L at *
  obtain ⟨b1, b2, b3⟩ := id B2
  obtain ⟨c1, c2, c3⟩ := id C2
  by_cases h50 : 50 < ns.length
  · have d1 : decide ((50 : Int) < (ns.length : Int)) = true := by simp; omega
    go_wp2_with fail
    all_goals (go_ret; exact ⟨rfl, hb2⟩)
  · have d1 : decide ((50 : Int) < (ns.length : Int)) = false := by simp; omega
    have hck := ccheck_any tag _ _ l d ns base p L w2 (HM.out.keep hb2) ⟨_, rfl, HU.out.keep hb2⟩ hT2 (hk.keep hb2)
    by_cases hg : goodC tag l d ns L = 0
    · rw [hg] at hck
      go_wp2_with fail
      refine hck.mono ?_
      rintro e w3 ⟨rfl, hb⟩
      have hb3 := hb2.trans (hb.mono hb2.size)
      have B3 := B2.keep hb
      have C3 := C2.keep hb
      have hT3 := hT2.keep hb
      clear hck hb B2 C2 b1 b2 b3 c1 c2 c3 hT2 hGM hb2
      obtain ⟨b1, b2, b3⟩ := id B3
      obtain ⟨c1, c2, c3⟩ := id C3
      have hw3 : base ≤ w3.heap.size := by have := hT3.lt; omega
      go_wp2_with fail
      go_loopw [9, 10, 11] (fun s9 _ _ wr => ∃ (n : Nat) (K : List Sg), s9 = .int .i64 (n) ∧ n ≤ 10 ∧ n ≤ more.length ∧ Tab wr base p K ∧ Grows L K ∧ Below base w3 wr) (fun s9 _ _ _ => more.length + 10 - (intOf s9).toNat)
      case atStart => exact ⟨0, L, rfl, Nat.zero_le _, Nat.zero_le _, hT3, Grows.refl _, Below.refl _ _⟩
      case round =>
        obtain ⟨n, K, rfl, hn, hnl, hT, hgr, hb⟩ := hrel
        have B4 : Blk wr w.heap.size _ := B3.of_block (hb.block _ (by omega)) hb.size
        have C4 : Blk wr (w.heap.size + 1) _ := C3.of_block (hb.block _ (by omega)) hb.size
        have hb4 : Below w.heap.size w wr := hb3.trans (hb.mono (by omega))
        have hk4 := hk.keep hb4
        clear b1 b2 b3 c1 c2 c3
        obtain ⟨b1, b2, b3⟩ := id B4
        obtain ⟨c1, c2, c3⟩ := id C4
        by_cases hgo : n < more.length ∧ n < 10
        · obtain ⟨h1, h2⟩ := hgo
          have d3 : decide ((n : Int) < (more.length : Int)) = true := by simp; omega
          have d4 : decide ((n : Int) < 10) = true := by simp; omega
          obtain ⟨g, off, cap, hva, hg0, e0, e1, e2, e3⟩ := HT.out.at h1
          obtain ⟨l1, l2⟩ := HTS.out n h1
          injection hva with hva _ hvc
          subst hva hvc
          generalize hx : more.getD n stp0 = y at *
          obtain ⟨tg, who, sum, dis⟩ := y
          clear hx
          simp only at e0 e1 e2 e3 l1 l2
          replace e0 : ∀ w', Below w.heap.size w w' → w'.cell? ⟨g, off + n * 4, none⟩ = some (.int .i64 (tg)) := fun w' h => (h.cell (p := ⟨g, off + n * 4, none⟩) hg0).trans e0
          replace e1 : ∀ w', Below w.heap.size w w' → w'.cell? ⟨g, off + n * 4 + 1, none⟩ = some (.string ⟨List.toArray (who)⟩) := fun w' h => (h.cell (p := ⟨g, off + n * 4 + 1, none⟩) hg0).trans e1
          replace e2 : ∀ w', Below w.heap.size w w' → w'.cell? ⟨g, off + n * 4 + 2, none⟩ = some (.string ⟨List.toArray (sum)⟩) := fun w' h => (h.cell (p := ⟨g, off + n * 4 + 2, none⟩) hg0).trans e2
          replace e3 : ∀ w', Below w.heap.size w w' → w'.cell? ⟨g, off + n * 4 + 3, none⟩ = some (.bool dis) := fun w' h => (h.cell (p := ⟨g, off + n * 4 + 3, none⟩) hg0).trans e3
          have hb2 : 0 ≤ (n : Int) ∧ (n : Int) < (more.length : Int) := by omega
          unfold maxLen at l1 l2
          have hcut : ∀ w, Calls Tryd.prog 25 #[.string ⟨List.toArray (sum)⟩, .int .i64 (100)] w fun e w' => e = .returned (.string ⟨List.toArray (sum.take 100)⟩) ∧ Below w.heap.size w w' := fun w => cut_any sum 100 (by omega) w
          have hdg : ∀ w, KT w → Calls Tryd.prog 24 #[.int .i64 ((tagM tg : Int)), .string ⟨List.toArray (sum.take 100)⟩] w fun e w' => e = .returned (.tuple #[.string ⟨List.toArray ((digP (tagM tg) (sum.take 100)).1)⟩, .int .i64 ((digP (tagM tg) (sum.take 100)).2)]) ∧ Below w.heap.size w w' := fun w h => digsum_any _ (tagM_le tg) _ (by simp; omega) w h
          have hml : (digP (tagM tg) (sum.take 100)).1.length ≤ 9223372036854775807 := by have := digP_len (tagM tg) (sum.take 100); omega
          generalize digP (tagM tg) (sum.take 100) = q at *
          obtain ⟨m, z⟩ := q
          simp only at hdg hml
          generalize sum.take 100 = sum2 at *
          go_wp2_with fail
          refine wpH_start (by kernel_rfl) (fun hS => ?_)
          (refine wpH_pure 0 ?_ (oi := { dst := some 45, op := Op.move (Operand.tmp 2), type := 23, pos := "theorems.go:80", after := #[], guard := none }) rfl (by kernel_rfl) (by kernel_rfl) (by kernel_rfl) (by rfl) hS (fun _ _ _ h => h) ?_ ?_; rotate_left; focus (intro w; go_simp; try with_reducible rfl))
          try simp only [Act.put, List.setIfInBounds_toArray, List.set_cons_zero, List.set_cons_succ]
          (refine wpH_pure 1 ?_ (oi := { dst := some 46, op := Op.move (Operand.tmp 9), type := 3, pos := "theorems.go:80", after := #[], guard := none }) rfl (by kernel_rfl) (by kernel_rfl) (by kernel_rfl) (by rfl) hS (fun _ _ _ h => h) ?_ ?_; rotate_left; focus (intro w; go_simp; try with_reducible rfl))
          try simp only [Act.put, List.setIfInBounds_toArray, List.set_cons_zero, List.set_cons_succ]
          (refine wpH_pure 2 ?_ (oi := { dst := some 47, op := Op.indexAddr 23 (Operand.tmp 45) (Operand.tmp 46), type := 0, pos := "theorems.go:80", after := #[{ on := 0, ground := Ground.data }, { on := 1, ground := Ground.data }], guard := none }) rfl (by kernel_rfl) (by kernel_rfl) (by kernel_rfl) (by rfl) hS (fun _ _ _ h => h) ?_ ?_; rotate_left; focus (intro w; go_simp; try with_reducible rfl))
          try simp only [Act.put, List.setIfInBounds_toArray, List.set_cons_zero, List.set_cons_succ]
          (refine wpH_pure 3 ?_ (oi := { dst := some 48, op := Op.fieldAddr 50 (Operand.tmp 47) 0, type := 0, pos := "theorems.go:80", after := #[{ on := 2, ground := Ground.data }], guard := none }) rfl (by kernel_rfl) (by kernel_rfl) (by kernel_rfl) (by rfl) hS (fun _ _ _ h => h) ?_ ?_; rotate_left; focus (intro w; go_simp; try with_reducible rfl))
          try simp only [Act.put, List.setIfInBounds_toArray, List.set_cons_zero, List.set_cons_succ]
          refine wpH_load 4 (.int .i64 (tg)) (oi := { dst := some 49, op := Op.load 3 (Operand.tmp 48), type := 3, pos := "theorems.go:80", after := #[{ on := 3, ground := Ground.data }], guard := none }) rfl (by kernel_rfl) (by kernel_rfl) (by kernel_rfl) (by rfl) hS (fun _ _ _ h => h) (fun w hb2 => (by have c := e0 w (hb4.trans (hb2.mono hb4.size)); go_simp; try rfl)) ?_
          try simp only [Act.put, List.setIfInBounds_toArray, List.set_cons_zero, List.set_cons_succ]
          (refine wpH_pure 5 ?_ (oi := { dst := some 50, op := Op.call { callee := Callee.builtin Builtin.max, args := #[Operand.tmp 49, Operand.const (Value.int IntKind.i64 1)], argTypes := #[3, 3] }, type := 3, pos := "theorems.go:80", after := #[{ on := 4, ground := Ground.data }], guard := none }) rfl (by kernel_rfl) (by kernel_rfl) (by kernel_rfl) (by rfl) hS (fun _ _ _ h => h) ?_ ?_; rotate_left; focus (intro w; go_simp; try with_reducible rfl))
          try simp only [Act.put, List.setIfInBounds_toArray, List.set_cons_zero, List.set_cons_succ]
          refine wpH_load 6 (.int .i64 ((tagM tg : Int))) (oi := { dst := some 51, op := Op.binOp BinOp.rem 3 (Operand.tmp 50) (Operand.const (Value.int IntKind.i64 256)) 3, type := 3, pos := "theorems.go:80", after := #[{ on := 5, ground := Ground.data }], guard := none }) rfl (by kernel_rfl) (by kernel_rfl) (by kernel_rfl) (by rfl) hS (fun _ _ _ h => h) (fun w hb2 => (by go_simp; exact tagM_eq tg)) ?_
          try simp only [Act.put, List.setIfInBounds_toArray, List.set_cons_zero, List.set_cons_succ]
          (refine wpH_pure 7 ?_ (oi := { dst := some 52, op := Op.move (Operand.tmp 2), type := 23, pos := "theorems.go:80", after := #[], guard := none }) rfl (by kernel_rfl) (by kernel_rfl) (by kernel_rfl) (by rfl) hS (fun _ _ _ h => h) ?_ ?_; rotate_left; focus (intro w; go_simp; try with_reducible rfl))
          try simp only [Act.put, List.setIfInBounds_toArray, List.set_cons_zero, List.set_cons_succ]
          (refine wpH_pure 8 ?_ (oi := { dst := some 53, op := Op.move (Operand.tmp 9), type := 3, pos := "theorems.go:80", after := #[], guard := none }) rfl (by kernel_rfl) (by kernel_rfl) (by kernel_rfl) (by rfl) hS (fun _ _ _ h => h) ?_ ?_; rotate_left; focus (intro w; go_simp; try with_reducible rfl))
          try simp only [Act.put, List.setIfInBounds_toArray, List.set_cons_zero, List.set_cons_succ]
          (refine wpH_pure 9 ?_ (oi := { dst := some 54, op := Op.indexAddr 23 (Operand.tmp 52) (Operand.tmp 53), type := 0, pos := "theorems.go:80", after := #[{ on := 7, ground := Ground.data }, { on := 8, ground := Ground.data }], guard := none }) rfl (by kernel_rfl) (by kernel_rfl) (by kernel_rfl) (by rfl) hS (fun _ _ _ h => h) ?_ ?_; rotate_left; focus (intro w; go_simp; try with_reducible rfl))
          try simp only [Act.put, List.setIfInBounds_toArray, List.set_cons_zero, List.set_cons_succ]
          (refine wpH_pure 10 ?_ (oi := { dst := some 55, op := Op.fieldAddr 50 (Operand.tmp 54) 2, type := 0, pos := "theorems.go:80", after := #[{ on := 9, ground := Ground.data }], guard := none }) rfl (by kernel_rfl) (by kernel_rfl) (by kernel_rfl) (by rfl) hS (fun _ _ _ h => h) ?_ ?_; rotate_left; focus (intro w; go_simp; try with_reducible rfl))
          try simp only [Act.put, List.setIfInBounds_toArray, List.set_cons_zero, List.set_cons_succ]
          refine wpH_load 11 (.string ⟨List.toArray (sum)⟩) (oi := { dst := some 56, op := Op.load 9 (Operand.tmp 55), type := 9, pos := "theorems.go:80", after := #[{ on := 10, ground := Ground.data }], guard := none }) rfl (by kernel_rfl) (by kernel_rfl) (by kernel_rfl) (by rfl) hS (fun _ _ _ h => h) (fun w hb2 => (by have c := e2 w (hb4.trans (hb2.mono hb4.size)); go_simp; try rfl)) ?_
          try simp only [Act.put, List.setIfInBounds_toArray, List.set_cons_zero, List.set_cons_succ]
          refine wpH_call 12 (oi := { dst := some 57, op := Op.call { callee := Callee.value (Operand.func 25), args := #[Operand.tmp 56, Operand.const (Value.int IntKind.i64 100)], argTypes := #[9, 3] }, type := 9, pos := "theorems.go:80", after := #[{ on := 11, ground := Ground.data }], guard := none }) rfl (by kernel_rfl) (by rfl) (hcut _) ?_ ?_
          · (go_simp; try rfl)
          rintro e w' ⟨rfl, hbx⟩
          refine ⟨_, rfl, hS.trans (hbx.mono hS.size), ?_⟩
          replace hS := hS.trans (hbx.mono hS.size)
          try simp only [Act.put, List.setIfInBounds_toArray, List.set_cons_zero, List.set_cons_succ]
          refine wpH_call 13 (oi := { dst := some 58, op := Op.call { callee := Callee.value (Operand.func 24), args := #[Operand.tmp 51, Operand.tmp 57], argTypes := #[3, 9] }, type := 37, pos := "theorems.go:80", after := #[{ on := 6, ground := Ground.data }, { on := 12, ground := Ground.data }, { on := 12, ground := Ground.chain }], guard := none }) rfl (by kernel_rfl) (by rfl) (hdg _ (hk4.keep hS)) ?_ ?_
          · (go_simp; try rfl)
          rintro e w' ⟨rfl, hbx⟩
          refine ⟨_, rfl, hS.trans (hbx.mono hS.size), ?_⟩
          replace hS := hS.trans (hbx.mono hS.size)
          try simp only [Act.put, List.setIfInBounds_toArray, List.set_cons_zero, List.set_cons_succ]
          (refine wpH_pure 14 ?_ (oi := { dst := some 44, op := Op.move (Operand.tmp 58), type := 37, pos := "theorems.go:80", after := #[{ on := 13, ground := Ground.data }], guard := none }) rfl (by kernel_rfl) (by kernel_rfl) (by kernel_rfl) (by rfl) hS (fun _ _ _ h => h) ?_ ?_; rotate_left; focus (intro w; go_simp; try with_reducible rfl))
          try simp only [Act.put, List.setIfInBounds_toArray, List.set_cons_zero, List.set_cons_succ]
          (refine wpH_pure 15 ?_ (oi := { dst := some 59, op := Op.extract (Operand.tmp 44) 0, type := 9, pos := "theorems.go:80", after := #[{ on := 14, ground := Ground.data }], guard := none }) rfl (by kernel_rfl) (by kernel_rfl) (by kernel_rfl) (by rfl) hS (fun _ _ _ h => h) ?_ ?_; rotate_left; focus (intro w; go_simp; try with_reducible rfl))
          try simp only [Act.put, List.setIfInBounds_toArray, List.set_cons_zero, List.set_cons_succ]
          (refine wpH_pure 16 ?_ (oi := { dst := some 60, op := Op.extract (Operand.tmp 44) 1, type := 36, pos := "theorems.go:80", after := #[{ on := 14, ground := Ground.data }, { on := 17, ground := Ground.gcOnly Departure.lateStores }], guard := none }) rfl (by kernel_rfl) (by kernel_rfl) (by kernel_rfl) (by rfl) hS (fun _ _ _ h => h) ?_ ?_; rotate_left; focus (intro w; go_simp; try with_reducible rfl))
          try simp only [Act.put, List.setIfInBounds_toArray, List.set_cons_zero, List.set_cons_succ]
          (refine wpH_pure 17 ?_ (oi := { dst := some 10, op := Op.assign (Operand.tmp 59), type := 9, pos := "theorems.go:80", after := #[{ on := 15, ground := Ground.data }, { on := 13, ground := Ground.chain }, { on := 0, ground := Ground.phase }, { on := 1, ground := Ground.phase }, { on := 2, ground := Ground.phase }, { on := 3, ground := Ground.phase }, { on := 4, ground := Ground.phase }, { on := 5, ground := Ground.phase }, { on := 6, ground := Ground.phase }, { on := 7, ground := Ground.phase }, { on := 8, ground := Ground.phase }, { on := 9, ground := Ground.phase }, { on := 10, ground := Ground.phase }, { on := 11, ground := Ground.phase }, { on := 12, ground := Ground.phase }, { on := 13, ground := Ground.phase }, { on := 14, ground := Ground.phase }, { on := 15, ground := Ground.phase }, { on := 16, ground := Ground.textOnly Departure.lateStores }], guard := none }) rfl (by kernel_rfl) (by kernel_rfl) (by kernel_rfl) (by rfl) hS (fun _ _ _ h => h) ?_ ?_; rotate_left; focus (intro w; go_simp; try with_reducible rfl))
          try simp only [Act.put, List.setIfInBounds_toArray, List.set_cons_zero, List.set_cons_succ]
          (refine wpH_pure 18 ?_ (oi := { dst := some 11, op := Op.assign (Operand.tmp 60), type := 36, pos := "theorems.go:80", after := #[{ on := 16, ground := Ground.data }, { on := 17, ground := Ground.chain }, { on := 0, ground := Ground.phase }, { on := 1, ground := Ground.phase }, { on := 2, ground := Ground.phase }, { on := 3, ground := Ground.phase }, { on := 4, ground := Ground.phase }, { on := 5, ground := Ground.phase }, { on := 6, ground := Ground.phase }, { on := 7, ground := Ground.phase }, { on := 8, ground := Ground.phase }, { on := 9, ground := Ground.phase }, { on := 10, ground := Ground.phase }, { on := 11, ground := Ground.phase }, { on := 12, ground := Ground.phase }, { on := 13, ground := Ground.phase }, { on := 14, ground := Ground.phase }, { on := 15, ground := Ground.phase }, { on := 16, ground := Ground.phase }, { on := 17, ground := Ground.phase }], guard := none }) rfl (by kernel_rfl) (by kernel_rfl) (by kernel_rfl) (by rfl) hS (fun _ _ _ h => h) ?_ ?_; rotate_left; focus (intro w; go_simp; try with_reducible rfl))
          try simp only [Act.put, List.setIfInBounds_toArray, List.set_cons_zero, List.set_cons_succ]
          refine wpAnyH_done (by kernel_rfl) ?_ _
          have hb5 := hb.trans (hS.mono (by have := hb.size; omega))
          have hb6 := hb4.trans (hS.mono hb4.size)
          have hT5 := hT.keep hS
          clear hS hb hT hb4 B4 C4 b1 b2 b3 c1 c2 c3
          by_cases hz : z = 0
          · subst hz
            go_wp2_with fail
            refine wpH_startB (base) (by kernel_rfl) (fun hS => ?_)
            (refine wpH_pure 0 ?_ (oi := { dst := some 63, op := Op.move (Operand.tmp 7), type := 31, pos := "theorems.go:81", after := #[], guard := none }) rfl (by kernel_rfl) (by kernel_rfl) (by kernel_rfl) (by rfl) hS (fun _ _ _ h => h) ?_ ?_; rotate_left; focus (intro w; go_simp; try with_reducible rfl))
            try simp only [Act.put, List.setIfInBounds_toArray, List.set_cons_zero, List.set_cons_succ]
            (refine wpH_pure 1 ?_ (oi := { dst := some 64, op := Op.move (Operand.tmp 2), type := 23, pos := "theorems.go:81", after := #[], guard := none }) rfl (by kernel_rfl) (by kernel_rfl) (by kernel_rfl) (by rfl) hS (fun _ _ _ h => h) ?_ ?_; rotate_left; focus (intro w; go_simp; try with_reducible rfl))
            try simp only [Act.put, List.setIfInBounds_toArray, List.set_cons_zero, List.set_cons_succ]
            (refine wpH_pure 2 ?_ (oi := { dst := some 65, op := Op.move (Operand.tmp 9), type := 3, pos := "theorems.go:81", after := #[], guard := none }) rfl (by kernel_rfl) (by kernel_rfl) (by kernel_rfl) (by rfl) hS (fun _ _ _ h => h) ?_ ?_; rotate_left; focus (intro w; go_simp; try with_reducible rfl))
            try simp only [Act.put, List.setIfInBounds_toArray, List.set_cons_zero, List.set_cons_succ]
            (refine wpH_pure 3 ?_ (oi := { dst := some 66, op := Op.indexAddr 23 (Operand.tmp 64) (Operand.tmp 65), type := 0, pos := "theorems.go:81", after := #[{ on := 1, ground := Ground.data }, { on := 2, ground := Ground.data }], guard := none }) rfl (by kernel_rfl) (by kernel_rfl) (by kernel_rfl) (by rfl) hS (fun _ _ _ h => h) ?_ ?_; rotate_left; focus (intro w; go_simp; try with_reducible rfl))
            try simp only [Act.put, List.setIfInBounds_toArray, List.set_cons_zero, List.set_cons_succ]
            (refine wpH_pure 4 ?_ (oi := { dst := some 67, op := Op.fieldAddr 50 (Operand.tmp 66) 1, type := 0, pos := "theorems.go:81", after := #[{ on := 3, ground := Ground.data }], guard := none }) rfl (by kernel_rfl) (by kernel_rfl) (by kernel_rfl) (by rfl) hS (fun _ _ _ h => h) ?_ ?_; rotate_left; focus (intro w; go_simp; try with_reducible rfl))
            try simp only [Act.put, List.setIfInBounds_toArray, List.set_cons_zero, List.set_cons_succ]
            refine wpH_load 5 (.string ⟨List.toArray (who)⟩) (oi := { dst := some 68, op := Op.load 9 (Operand.tmp 67), type := 9, pos := "theorems.go:81", after := #[{ on := 4, ground := Ground.data }], guard := none }) rfl (by kernel_rfl) (by kernel_rfl) (by kernel_rfl) (by rfl) hS (fun _ _ _ h => h) (fun w hb2 => (by have c := e1 w (hb6.trans (hb2.mono (by omega))); go_simp; try rfl)) ?_
            try simp only [Act.put, List.setIfInBounds_toArray, List.set_cons_zero, List.set_cons_succ]
            (refine wpH_pure 6 ?_ (oi := { dst := some 69, op := Op.move (Operand.tmp 10), type := 9, pos := "theorems.go:81", after := #[], guard := none }) rfl (by kernel_rfl) (by kernel_rfl) (by kernel_rfl) (by rfl) hS (fun _ _ _ h => h) ?_ ?_; rotate_left; focus (intro w; go_simp; try with_reducible rfl))
            try simp only [Act.put, List.setIfInBounds_toArray, List.set_cons_zero, List.set_cons_succ]
            (refine wpH_pure 7 ?_ (oi := { dst := some 70, op := Op.move (Operand.tmp 2), type := 23, pos := "theorems.go:81", after := #[], guard := none }) rfl (by kernel_rfl) (by kernel_rfl) (by kernel_rfl) (by rfl) hS (fun _ _ _ h => h) ?_ ?_; rotate_left; focus (intro w; go_simp; try with_reducible rfl))
            try simp only [Act.put, List.setIfInBounds_toArray, List.set_cons_zero, List.set_cons_succ]
            (refine wpH_pure 8 ?_ (oi := { dst := some 71, op := Op.move (Operand.tmp 9), type := 3, pos := "theorems.go:81", after := #[], guard := none }) rfl (by kernel_rfl) (by kernel_rfl) (by kernel_rfl) (by rfl) hS (fun _ _ _ h => h) ?_ ?_; rotate_left; focus (intro w; go_simp; try with_reducible rfl))
            try simp only [Act.put, List.setIfInBounds_toArray, List.set_cons_zero, List.set_cons_succ]
            (refine wpH_pure 9 ?_ (oi := { dst := some 72, op := Op.indexAddr 23 (Operand.tmp 70) (Operand.tmp 71), type := 0, pos := "theorems.go:81", after := #[{ on := 7, ground := Ground.data }, { on := 8, ground := Ground.data }], guard := none }) rfl (by kernel_rfl) (by kernel_rfl) (by kernel_rfl) (by rfl) hS (fun _ _ _ h => h) ?_ ?_; rotate_left; focus (intro w; go_simp; try with_reducible rfl))
            try simp only [Act.put, List.setIfInBounds_toArray, List.set_cons_zero, List.set_cons_succ]
            (refine wpH_pure 10 ?_ (oi := { dst := some 73, op := Op.fieldAddr 50 (Operand.tmp 72) 3, type := 0, pos := "theorems.go:81", after := #[{ on := 9, ground := Ground.data }], guard := none }) rfl (by kernel_rfl) (by kernel_rfl) (by kernel_rfl) (by rfl) hS (fun _ _ _ h => h) ?_ ?_; rotate_left; focus (intro w; go_simp; try with_reducible rfl))
            try simp only [Act.put, List.setIfInBounds_toArray, List.set_cons_zero, List.set_cons_succ]
            refine wpH_load 11 (.bool dis) (oi := { dst := some 74, op := Op.load 4 (Operand.tmp 73), type := 4, pos := "theorems.go:81", after := #[{ on := 10, ground := Ground.data }], guard := none }) rfl (by kernel_rfl) (by kernel_rfl) (by kernel_rfl) (by rfl) hS (fun _ _ _ h => h) (fun w hb2 => (by have c := e3 w (hb6.trans (hb2.mono (by omega))); go_simp; try rfl)) ?_
            try simp only [Act.put, List.setIfInBounds_toArray, List.set_cons_zero, List.set_cons_succ]
            (refine wpH_pure 12 ?_ (oi := { dst := some 75, op := Op.unOp UnOp.not 4 (Operand.tmp 74), type := 4, pos := "theorems.go:81", after := #[{ on := 11, ground := Ground.data }], guard := none }) rfl (by kernel_rfl) (by kernel_rfl) (by kernel_rfl) (by rfl) hS (fun _ _ _ h => h) ?_ ?_; rotate_left; focus (intro w; go_simp; try with_reducible rfl))
            try simp only [Act.put, List.setIfInBounds_toArray, List.set_cons_zero, List.set_cons_succ]
            refine wpH_call 13 (oi := { dst := some 76, op := Op.call { callee := Callee.value (Operand.func 26), args := #[Operand.tmp 63, Operand.tmp 68, Operand.tmp 69, Operand.tmp 75], argTypes := #[31, 9, 9, 4] }, type := 36, pos := "theorems.go:81", after := #[{ on := 0, ground := Ground.data }, { on := 5, ground := Ground.data }, { on := 6, ground := Ground.data }, { on := 12, ground := Ground.data }], guard := none }) rfl (by kernel_rfl) (by rfl) (osign_any _ p _ who m (!dis) (by omega) hml _ (hT5.keep (Below.refl _ _).drew)) ?_ ?_
            · (go_simp; try rfl)
            rintro e w' ⟨rfl, hT6, hbx⟩
            refine ⟨_, rfl, hS.trans hbx, ?_⟩
            replace hS := hS.trans hbx
            try simp only [Act.put, List.setIfInBounds_toArray, List.set_cons_zero, List.set_cons_succ]
            refine wpAnyH_done (by kernel_rfl) ?_ _
            go_wp2_with fail
            exact ⟨⟨n + 1, _, rfl, by omega, by omega, hT6, hgr.step _ _ _, hb5.trans hS⟩, by simp [intOf]; omega⟩
          · have ez : (z == 0) = false := by simpa using hz
            go_wp2_with fail
            exact ⟨⟨n + 1, _, rfl, by omega, by omega, hT5, hgr, hb5⟩, by simp [intOf]; omega⟩
        · have hck := ccheck_any tag _ _ l d ns base p K wr (HM.out.keep hb4) ⟨_, rfl, HU.out.keep hb4⟩ hT hk4
          rw [good_more hgr hg] at hck
          by_cases h1 : n < more.length
          · have d3 : decide ((n : Int) < (more.length : Int)) = true := by simp; omega
            have d4 : decide ((n : Int) < 10) = false := by simp; omega
            go_wp2_with fail
            refine hck.mono ?_
            rintro e w5 ⟨rfl, hb5⟩
            go_wp2_with fail
            all_goals (go_ret; exact ⟨rfl, hb4.trans (hb5.mono hb4.size)⟩)
          · have d3 : decide ((n : Int) < (more.length : Int)) = false := by simp; omega
            go_wp2_with fail
            refine hck.mono ?_
            rintro e w5 ⟨rfl, hb5⟩
            go_wp2_with fail
            all_goals (go_ret; exact ⟨rfl, hb4.trans (hb5.mono hb4.size)⟩)
    · have e1 : (goodC tag l d ns L != 0) = true := by simpa using hg
      generalize goodC tag l d ns L = z at *
      go_wp2_with fail
      refine hck.mono ?_
      rintro e w3 ⟨rfl, hb⟩
      go_wp2_with fail
      all_goals (go_ret; exact ⟨rfl, hb2.trans (hb.mono hb2.size)⟩)
end Go.Proofs.YtbnjhfkmdejeaaaDoor

/- Arguments of the types []string and api.Cert. -/
set_option linter.unusedVariables false
namespace Go.Proofs.YtbnjhfkmdejeaaaDoor
open Go.ChangeShapes Go.WideShapes Go.ChangeAt Go.RowKit Pl

theorem ss_val {W : World} {v : Value} (h : Sh.Val W (.slice 1 .str) v) : ∃ l : List Bs, SS W v l ∧ ∀ i, i < l.length → (l.getD i []).length ≤ maxLen := by
  rcases (show _ ∨ _ from h) with h | ⟨a, len, cap, hv, hlc, hcm, hel⟩
  · obtain rfl : v = .slice none 0 0 := by simpa using h
    exact ⟨[], SS.nil W, fun i hi => by simp at hi⟩
  · obtain rfl : v = .slice (some a) len cap := by simpa using hv
    rcases Nat.eq_zero_or_pos len with h0 | hpos
    · subst h0
      exact ⟨[], ⟨some a, cap, rfl, hlc, hcm, fun h => absurd rfl h⟩, fun i hi => by simp at hi⟩
    · obtain ⟨hs, hc⟩ := slice_cells (by decide) hpos hel
      have hf : ∀ i, ∃ x : Bs, i < len → W.cell? ⟨a.block, a.off + i, none⟩ = some (.string ⟨List.toArray (x)⟩) ∧ x.length ≤ maxLen := by
        intro i
        by_cases hi : i < len
        · obtain ⟨cs, ⟨s, rfl, hsl⟩, _, hj⟩ := hc i hi
          have h0 := hj 0 (by decide)
          refine ⟨s.data.toList, fun _ => ⟨?_, by rw [Array.length_toList]; exact hsl⟩⟩
          rw [← str_list s]
          simpa using h0
        · exact ⟨[], fun h => absurd h hi⟩
      obtain ⟨f, hf⟩ := Classical.axiomOfChoice hf
      obtain ⟨b, off, sp⟩ := a
      simp only at hs
      subst hs
      have hg : ∀ i, i < len → ((List.range len).map f).getD i [] = f i := fun i hi => by simp [List.getD, hi]
      refine ⟨(List.range len).map f, ⟨some ⟨b, off, none⟩, cap, by simp, by simpa using hlc, hcm, fun _ => ⟨b, off, rfl, cell_lt (hf 0 hpos).1, fun i hi => ?_⟩⟩, fun i hi => ?_⟩
      · have hi' : i < len := by simpa using hi
        rw [hg i hi']
        exact (hf i hi').1
      · have hi' : i < len := by simpa using hi
        rw [hg i hi']
        exact (hf i hi').2
theorem cert_val {W : World} {v : Value} (h : Sh.Val W (.pair .str (.pair (.slice 1 .str) .unit)) v) : ∃ (d : Bs) (l : List Bs), CV W v d l ∧ d.length ≤ maxLen ∧ ∀ i, i < l.length → (l.getD i []).length ≤ maxLen := by
  obtain ⟨c0, rfl, x, y, rfl, ⟨s, rfl, hs⟩, z, u, rfl, hz, hu⟩ := h
  obtain rfl : u = [] := hu
  obtain ⟨v', rfl, hv⟩ : ∃ v', z = [v'] ∧ Sh.Val W (.slice 1 .str) v' := by
    rcases hz with rfl | ⟨a, len, cap, rfl, hr⟩
    · exact ⟨_, rfl, .inl rfl⟩
    · exact ⟨_, rfl, .inr ⟨a, len, cap, rfl, hr⟩⟩
  obtain ⟨l, hl, hlen⟩ := ss_val hv
  refine ⟨s.data.toList, l, ⟨v', ?_, hl⟩, by rw [Array.length_toList]; exact hs, hlen⟩
  rw [← str_list s]
  simp
end Go.Proofs.YtbnjhfkmdejeaaaDoor

/- The table of constants that the card lists lies where the walks ask for it; a world that has it. -/
set_option linter.unusedSimpArgs false
set_option linter.unusedVariables false
namespace Go.Proofs.YtbnjhfkmdejeaaaDoor
open Go.ChangeShapes Go.WideShapes Go.ChangeAt Go.RowKit

theorem gK : Tryd.prog.globalNamed "pharos/sha.k" = some 0 := by kernel_rfl
theorem tK : (Tryd.prog.globals[0]?).map (·.type) = some 187 := by kernel_rfl
theorem laid_eq {H : Type} : (Rows.laid_pharos_sha_k : DataW H) = .agg (kList.map fun n => .lit (.int .u32 n)) := rfl
theorem c1K : Tryd.prog.cellsOf 133 = 1 := by kernel_rfl

theorem kt_of_laid {W : World} (h : laidMetH Tryd.prog [("pharos/sha.k", Rows.laid_pharos_sha_k)] W) : KT W := by
  rw [MakeChecks.laidMetH_plain _ _ _ (by kernel_rfl)] at h
  obtain ⟨ps, ⟨g0, t0, cs0, f0, p0, q0, hg0, ht0, hv0, hd0, hrest⟩, _, _⟩ := h
  obtain rfl := Option.some.inj (gK.symm.trans hg0)
  obtain rfl := Option.some.inj (tK.symm.trans ht0)
  rw [laid_eq] at hd0
  obtain ⟨xs, m1, _, hx1, hl, hlen, hel⟩ := DataW.trod_array Tryd.underlying187 hd0
  rw [c1K] at hel
  simp only [Prod.mk.injEq, DataW.agg.injEq] at hx1
  have hcell : ∀ i, i < 64 → W.cell? ⟨0, i, none⟩ = some (.int .u32 (kc i)) := by
    intro i hi
    have h3 := hel i (by omega)
    have hxi : i < xs.length := by omega
    rw [List.getElem?_eq_getElem hxi] at h3
    obtain ⟨n, e1, e2, _⟩ := DataW.trod_int Tryd.underlying133 h3
    have h4 := congrArg (fun l => l[i]?) hx1.1
    simp only [List.getElem?_map, List.getElem?_eq_getElem hxi, Option.map_some] at h4
    rw [e2, List.getElem?_eq_getElem (show i < kList.length from hi)] at h4
    simp at h4
    have hv := World.var?_cell hg0 hv0 i
    rw [Nat.mul_one] at e1
    have h5 := congrArg (fun l => l[0]?) e1
    simp at h5
    have hlt : i < kList.length := hi
    rw [hv, h5, show kc i = n from by rw [← h4]; simp [kc, List.getD, hlt]]
  refine ⟨hcell, ?_⟩
  rcases Nat.lt_or_ge 0 W.heap.size with hlt | hge
  · exact hlt
  · have := hcell 0 (by omega)
    simp [World.cell?, Array.getElem?_eq_none hge] at this

theorem laid_door (os : Os) (args : Array Value) : laidMetH Tryd.prog [("pharos/sha.k", Rows.laid_pharos_sha_k)] ((World.doorLaid Tryd.prog 14 os).forCall (fun _ _ => 0) ⟨#[], args, []⟩).memory :=
  laidMetH_of_parts3 (fuel := 8) (laidMet_of_run' 8 (by kernel_rfl) (by kernel_rfl)) (by kernel_rfl) (by kernel_rfl)

end Go.Proofs.YtbnjhfkmdejeaaaDoor
