/- WorksW. -/
import Derived.Test.YthkpmlfaddlieaaGreatDoorMs24
set_option linter.unnecessarySimpa false
set_option linter.unusedSimpArgs false
set_option linter.unusedVariables false
set_option maxRecDepth 100000
set_option maxHeartbeats 32000000
namespace Go.Proofs.YthkpmlfaddlieaaGreatDoor
open Go.RowKit Go.Shelf Pl
theorem repExtra4 : Builder.Extra Tryz.prog laysRepeat_ren := {
 sizeBuilder := by kernel_rfl
 liesBuilder := by kernel_rfl
 t5 := laysRepeat.t5
 a5 := laysRepeat.a5
 z5 := laysRepeat.z5
 v5 := laysRepeat.v5
 infoByte := by kernel_rfl
 cellsByte := by kernel_rfl
 sizeByte := by kernel_rfl
 neB5 := by decide }
theorem rep_d4 (w : World) : Calls Tryz.prog 24 #[.string { data := #[100] }, .int .i64 32] w fun e w' => e = .returned (.string ⟨ds4.toArray⟩) ∧ Below w.heap.size w w' := by
 have h := Any.strings_Repeat laysRepeat repExtra4 ⟨#[100]⟩ 32 w (by omega) (by decide)
 refine h.mono ?_
 rintro e w' ⟨rfl, hb⟩
 exact ⟨by rfl, hb⟩
theorem row_ev : RowT Tryz.prog 54 27 := RowT.mk' Tryz.underlying54 rfl (by kernel_rfl)
theorem MS.belowW {W w : World} {B g o n c : Nat} {l : List (Bs × Int)} (h : MS W (.slice (some ⟨g, o, none⟩) n c) l) (hb : Below B W w) (hg : g < B) : MS w (.slice (some ⟨g, o, none⟩) n c) l := by
 obtain ⟨a, cap, h1, h2, h3, h4⟩ := h
 refine ⟨a, cap, h1, h2, h3, fun hl => ?_⟩
 obtain ⟨g', off, e, hg', hc⟩ := h4 hl
 injection h1 with h1 _ _
 rw [e] at h1
 injection h1 with h1
 injection h1 with h1 h5 _
 subst h1
 exact ⟨g, off, e, Nat.lt_of_lt_of_le hg' hb.size, fun i hi => ⟨(hb.cell (p := ⟨g, off + i * 2, none⟩) hg).trans (hc i hi).1, (hb.cell (p := ⟨g, off + i * 2 + 1, none⟩) hg).trans (hc i hi).2⟩⟩
theorem MS.modW {W w : World} {l2 : List Nat} {g o n c : Nat} {l : List (Bs × Int)} (h : MS W (.slice (some ⟨g, o, none⟩) n c) l) (hm : Mod l2 W w) (hg : g ∉ l2) : MS w (.slice (some ⟨g, o, none⟩) n c) l := by
 obtain ⟨a, cap, h1, h2, h3, h4⟩ := h
 refine ⟨a, cap, h1, h2, h3, fun hl => ?_⟩
 obtain ⟨g', off, e, hg', hc⟩ := h4 hl
 injection h1 with h1 _ _
 rw [e] at h1
 injection h1 with h1
 injection h1 with h1 h5 _
 subst h1
 have hq := hm.block g hg' hg
 exact ⟨g, off, e, Nat.lt_of_lt_of_le hg' hm.size, fun i hi => ⟨(cell_of_block hq _).trans (hc i hi).1, (cell_of_block hq _).trans (hc i hi).2⟩⟩
theorem signw_p (base p : Nat) (L : List Sg) (who : Bs) (h : Hd) (ka : Option Addr) (kc : Nat) (w : World) (hk : SS w (.slice ka h.skips.length kc) h.skips) (hKT : KT w) (hT : Tab w base p L) (hw : who.length ≤ 100) :
  Calls Tryz.prog 27 #[.pointer (some ⟨p, 0, none⟩), .agg (hcs h (.slice ka h.skips.length kc)).toArray, .string ⟨who.toArray⟩] w fun e w' => ∃ sv, e = .returned (.agg #[.string ⟨List.toArray (dgH h)⟩, sv]) ∧ SRow w' (p + 1) sv (ones1 who) ∧
   Tab w' base p (signs (markP 6 (dgH h)).1 L who) ∧ Below base w w' ∧ OrF p w w' :=
 (signw_any base p L who h ka kc w hk hKT hT hw).mono fun e w' hx => by
  obtain ⟨sv, h1, h2, h3⟩ := hx
  exact ⟨sv, h1, h2.low hT.lt.1, h3⟩
theorem worksw_any (w : World) (hk : KT w) :
  Calls Tryz.prog 5 #[] w fun e w' => e = .returned (.bool true) ∧ Below w.heap.size w w' := by
 have hM : MS (w.alloc (.cells #[.string ⟨List.toArray ([97])⟩, .int .i64 1, .string ⟨List.toArray ([98])⟩, .int .i64 1, .string ⟨List.toArray ([99])⟩, .int .i64 1, .string ⟨List.toArray ([100])⟩, .int .i64 1] 77)) (.slice (some ⟨w.heap.size, 0, none⟩) 4 4) four4 := by
  refine ⟨some ⟨w.heap.size, 0, none⟩, 4, rfl, by decide, by unfold maxLen; omega, fun _ => ⟨w.heap.size, 0, rfl, by simp, fun i hi => ?_⟩⟩
  have hi4 : i < 4 := hi
  rcases (show i = 0 ∨ i = 1 ∨ i = 2 ∨ i = 3 from by omega) with rfl | rfl | rfl | rfl <;> exact ⟨by simp [four4], by simp [four4]⟩
 have hb0 : Below w.heap.size w (w.alloc (.cells #[.string ⟨List.toArray ([97])⟩, .int .i64 1, .string ⟨List.toArray ([98])⟩, .int .i64 1, .string ⟨List.toArray ([99])⟩, .int .i64 1, .string ⟨List.toArray ([100])⟩, .int .i64 1] 77)) := Below.allocS (Below.refl _ _) _
 have he : ∀ v, hd4 v = ⟨1, 1, v, false, ds4, [], [], ds4, dgM four4, dgM four4, []⟩ := by intro v; rw [dgM_four]; rfl
 have q1 := rep_d4 (w.alloc (.cells #[.string ⟨List.toArray ([97])⟩, .int .i64 1, .string ⟨List.toArray ([98])⟩, .int .i64 1, .string ⟨List.toArray ([99])⟩, .int .i64 1, .string ⟨List.toArray ([100])⟩, .int .i64 1] 77))
 have HE := Lib.hid he
 clear he
 generalize ds4 = dd at *
 go_enter Tryz.func5, Tryz.ntmps5
 go_wp2_with fail
 refine q1.mono ?_
 rintro e w1 ⟨rfl, hb⟩
 have M1 := hM.keep hb
 have hb1 := hb0.trans (hb.mono hb0.size)
 have q2 := mdigest_any _ _ w1 M1 (hk.keep hb1)
 generalize dgM four4 = D at *
 clear hM hb0 hb q1
 go_wp2_with fail
 refine q2.mono ?_
 rintro e w2 ⟨rfl, hb⟩
 have M2 := M1.keep hb
 have hb2 := hb1.trans (hb.mono hb1.size)
 clear M1 hb1 hb q2
 go_wp2_with fail
 obtain ⟨h1, hh1⟩ : ∃ x, x = hd4 1 := ⟨_, rfl⟩
 obtain ⟨h2, hh2⟩ : ∃ x, x = hd4 2 := ⟨_, rfl⟩
 rw [show #[.int .i64 1, .int .i64 1, .int .i64 1, .bool false, .string ⟨dd.toArray⟩, .string ⟨List.toArray []⟩, .string ⟨List.toArray []⟩, .string ⟨dd.toArray⟩, .string ⟨List.toArray D⟩, .string ⟨List.toArray D⟩, .slice none 0 0] = (hcs h1 (.slice none h1.skips.length 0)).toArray from by rw [hh1, HE.out]; rfl]
 rw [show #[.int .i64 1, .int .i64 1, .int .i64 2, .bool false, .string ⟨dd.toArray⟩, .string ⟨List.toArray []⟩, .string ⟨List.toArray []⟩, .string ⟨dd.toArray⟩, .string ⟨List.toArray D⟩, .string ⟨List.toArray D⟩, .slice none 0 0] = (hcs h2 (.slice none h2.skips.length 0)).toArray from by rw [hh2, HE.out]; rfl]
 have hs1 : ∀ W : World, SS W (.slice none h1.skips.length 0) h1.skips := fun W => by rw [hh1, HE.out]; exact ss_nil W
 have hs2 : ∀ W : World, SS W (.slice none h2.skips.length 0) h2.skips := fun W => by rw [hh2, HE.out]; exact ss_nil W
 have HS1 := Lib.hid hs1
 have HS2 := Lib.hid hs2
 have HC0 : Hid (tab4 = signs (markP 6 (dgH h2)).1 (signs (markP 6 (dgH h1)).1 [] [97, 98, 99]) [98, 99, 100]) := Lib.hid (by rw [hh1, hh2]; rfl)
 have HC1 : Hid (∀ l, codeW four4 h1 h2 (dgH h1) [[97], [98], [99]] (dgH h2) l tab4 = goodC 6 four4 (dgH h2) l tab4) := Lib.hid (by intro l; rw [hh1, hh2]; exact codeW_4 l)
 have HC2 : Hid (goodC 6 four4 (dgH h2) [[98], [99], [100]] tab4 = 0 ∧ goodC 6 four4 (dgH h2) [[98], [99]] tab4 = 71) := Lib.hid (by rw [hh2]; exact ⟨good4b, few4b⟩)
 have hd1 : (dgH h1).length ≤ 32 := by rw [hh1, len4a]; exact Nat.le_refl _
 have hd2 : (dgH h2).length ≤ 32 := by rw [hh2, len4b]; exact Nat.le_refl _
 clear hh1 hh2 hs1 hs2 HE
 have H4 : Blk ((w2.alloc (.cells (hcs h1 (.slice none h1.skips.length 0)).toArray 48)).alloc (.cells (hcs h2 (.slice none h2.skips.length 0)).toArray 48)) w2.heap.size (hcs h1 (.slice none h1.skips.length 0)).toArray := (Blk.new _ _ _).alloc _
 have H5 : Blk ((w2.alloc (.cells (hcs h1 (.slice none h1.skips.length 0)).toArray 48)).alloc (.cells (hcs h2 (.slice none h2.skips.length 0)).toArray 48)) (w2.heap.size + 1) (hcs h2 (.slice none h2.skips.length 0)).toArray := Blk.new' (by simp)
 have hx3 : Below w2.heap.size w2 ((w2.alloc (.cells (hcs h1 (.slice none h1.skips.length 0)).toArray 48)).alloc (.cells (hcs h2 (.slice none h2.skips.length 0)).toArray 48)) := Below.allocS (Below.allocS (Below.refl _ _) _) _
 have HW2 := Lib.hid hb2.size
 have M3 := M2.keep hx3
 have hb3 := hb2.trans (hx3.mono hb2.size)
 generalize (w2.alloc (.cells (hcs h1 (.slice none h1.skips.length 0)).toArray 48)).alloc (.cells (hcs h2 (.slice none h2.skips.length 0)).toArray 48) = W3 at *
 clear M2 hb2 hx3
 refine (onew_any _).mono ?_
 rintro e w4 ⟨rfl, T4, hb⟩
 have M4 := Lib.hid (M3.keep hb)
 have h4l := H4.lt
 have hw2 : w.heap.size ≤ w2.heap.size := HW2.out
 have h5l := H5.lt
 have H4 := Lib.hid (H4.keep hb)
 have H5 := Lib.hid (H5.keep hb)
 have hb4 := hb3.trans (hb.mono hb3.size)
 have hT4 := Lib.hid T4
 have hlt := T4.lt
 have hK4 := Lib.hid (hk.keep hb4)
 have HB4 := Lib.hid hb4
 have hsz := hb3.size
 have hwB : w.heap.size < W3.heap.size := by omega
 clear M3 hb hb3 T4 hb4
 generalize W3.heap.size = B at *
 go_wp2_with fail
 go_cut [7] (fun s7 wx => ∃ (k7 : Nat) (a1 : Option Addr) (c1 : Nat) (a2 : Option Addr) (c2 : Nat), s7 = .pointer (some ⟨k7, 0, none⟩) ∧ Hid (Blk wx k7 (evcs (.slice (some ⟨w.heap.size, 0, none⟩) 4 4) h1 (.slice none h1.skips.length 0) h2 (.slice none h2.skips.length 0) (dgH h1) (.slice a1 3 c1) (dgH h2) (.slice a2 3 c2)).toArray) ∧ Hid (SRow wx (B + 1 + 1) (.slice a1 3 c1) [[97], [98], [99]]) ∧ Hid (SRow wx (B + 1 + 1) (.slice a2 3 c2) [[98], [99], [100]]) ∧ B + 1 < k7 ∧ Hid (Typ wx k7 54) ∧ Hid (Tab wx B (B + 1) tab4) ∧ Hid (Below B w4 wx))
 case first =>
  refine wpH_startB (B) (by kernel_rfl) (fun hS => ?_)
  have TB := hT4.out.keep ((Below.refl _ _).drew)
  (refine hP 0 ?_ ⟨some 30, .move (.tmp 1), 23, "", #[], none⟩ hS ?_ ?_; rotate_left; focus (intro w; go_simp; try with_reducible rfl))
  try simp only [pna, pnb, pnc, pnd, pne]
  refine wpH_row row_head 1 (oi := ⟨some 31,.load 48 (.tmp 4),48,"theorems.go:30",#[],none⟩) rfl (by kernel_rfl) (by kernel_rfl) (by kernel_rfl) (by rfl) hS (vs := hcs h1 (.slice none h1.skips.length 0)) (fun _ _ _ h => h) (.tmp 4) rfl rfl (rfl) (fun w' hb2 => H4.out.belowB hb2 (by omega)) ?_
  try simp only [pna, pnb, pnc, pnd, pne]
  refine wpH_row row_head 2 (oi := ⟨some 32,.load 48 (.tmp 5),48,"theorems.go:30",#[],none⟩) rfl (by kernel_rfl) (by kernel_rfl) (by kernel_rfl) (by rfl) hS (vs := hcs h2 (.slice none h2.skips.length 0)) (fun _ _ _ h => h) (.tmp 5) rfl rfl (rfl) (fun w' hb2 => H5.out.belowB hb2 (by omega)) ?_
  try simp only [pna, pnb, pnc, pnd, pne]
  (refine hP 3 ?_ ⟨some 33, .move (.tmp 6), 43, "", #[], none⟩ hS ?_ ?_; rotate_left; focus (intro w; go_simp; try with_reducible rfl))
  try simp only [pna, pnb, pnc, pnd, pne]
  refine wpH_row row_head 4 (oi := ⟨some 34,.load 48 (.tmp 4),48,"theorems.go:30",#[],none⟩) rfl (by kernel_rfl) (by kernel_rfl) (by kernel_rfl) (by rfl) hS (vs := hcs h1 (.slice none h1.skips.length 0)) (fun _ _ _ h => h) (.tmp 4) rfl rfl (rfl) (fun w' hb2 => H4.out.belowB hb2 (by omega)) ?_
  try simp only [pna, pnb, pnc, pnd, pne]
  (refine hP 6 ?_ ⟨some 36, .move (.tmp 6), 43, "", #[], none⟩ hS ?_ ?_; rotate_left; focus (intro w; go_simp; try with_reducible rfl))
  try simp only [pna, pnb, pnc, pnd, pne]
  refine wpH_row row_head 7 (oi := ⟨some 37,.load 48 (.tmp 5),48,"theorems.go:30",#[],none⟩) rfl (by kernel_rfl) (by kernel_rfl) (by kernel_rfl) (by rfl) hS (vs := hcs h2 (.slice none h2.skips.length 0)) (fun _ _ _ h => h) (.tmp 5) rfl rfl (rfl) (fun w' hb2 => H5.out.belowB hb2 (by omega)) ?_
  try simp only [pna, pnb, pnc, pnd, pne]
  refine wpAnyH_all (rs := [5, 10]) (by kernel_rfl) (by simp) (fun jj hjj => ?_)
  simp only [List.mem_cons, List.not_mem_nil, or_false] at hjj
  rcases hjj with rfl | rfl
  refine wpO_call (oi := ⟨some 35,.call { callee := .value (.func 27), args := #[.tmp 33, .tmp 34, .const (Value.string { data := #[97, 98, 99] })], argTypes := #[43, 48, 9] },37,"theorems.go:30",#[⟨3,.data⟩, ⟨4,.data⟩],none⟩) rfl (by rfl) (signw_p B (B + 1) [] [97, 98, 99] h1 none 0 _ (HS1.out _) (hk.keep (HB4.out.trans (hS.mono hsz))) TB (by decide)) ?_ ?_
  ·(go_simp; try rfl)
  rintro e w' ⟨sv1, rfl, CA, TB, hbx, ho⟩
  refine ⟨_, rfl, hS.trans hbx, ?_⟩
  replace hS := hS.trans hbx
  obtain ⟨a1, c1, hv1⟩ := CA.form
  subst hv1
  try have K7 := K7.orf (T7.foreign (by decide) (by omega)) ho
  try have T7 := T7.at (ho.block _ (T7.foreign (by decide) (by omega)))
  have hq1 := TB.lt.1
  try simp only [pna, pnb, pnc, pnd, pne]
  refine wpAnyH_all (rs := [8, 10]) (by kernel_rfl) (by simp) (fun jj hjj => ?_)
  simp only [List.mem_cons, List.not_mem_nil, or_false] at hjj
  rcases hjj with rfl | rfl
  refine wpO_call (oi := ⟨some 38,.call { callee := .value (.func 27), args := #[.tmp 36, .tmp 37, .const (Value.string { data := #[98, 99, 100] })], argTypes := #[43, 48, 9] },37,"theorems.go:30",#[⟨6,.data⟩, ⟨7,.data⟩, ⟨5,.chain⟩],none⟩) rfl (by rfl) (signw_p B (B + 1) _ [98, 99, 100] h2 none 0 _ (HS2.out _) (hk.keep (HB4.out.trans (hS.mono hsz))) TB (by decide)) ?_ ?_
  ·(go_simp; try rfl)
  rintro e w' ⟨sv2, rfl, CB, TB, hbx, ho⟩
  refine ⟨_, rfl, hS.trans hbx, ?_⟩
  replace hS := hS.trans hbx
  obtain ⟨a2, c2, hv2⟩ := CB.form
  subst hv2
  have CA := CA.orf ho (by omega)
  try have K7 := K7.orf (T7.foreign (by decide) (by omega)) ho
  try have T7 := T7.at (ho.block _ (T7.foreign (by decide) (by omega)))
  try simp only [pna, pnb, pnc, pnd, pne]
  refine wpH_load 9 (.agg (evcs (.slice (some ⟨w.heap.size, 0, none⟩) 4 4) h1 (.slice none h1.skips.length 0) h2 (.slice none h2.skips.length 0) (dgH h1) (.slice a1 3 c1) (dgH h2) (.slice a2 3 c2)).toArray) (oi := ⟨some 39,.build 54 #[(0, .tmp 30), (1, .tmp 31), (2, .tmp 32), (3, .tmp 35), (4, .tmp 38)],54,"theorems.go:30",#[⟨0,.data⟩, ⟨1,.data⟩, ⟨2,.data⟩, ⟨5,.data⟩, ⟨8,.data⟩],none⟩) rfl (by kernel_rfl) (by kernel_rfl) (by kernel_rfl) (by rfl) hS (fun _ _ _ h => h) (fun w' hb2 => (by kernel_rfl)) ?_
  try simp only [pna, pnb, pnc, pnd, pne]
  refine wpH_op 10 (oi := ⟨some 7,.alloc 54,0,"theorems.go:30",#[],none⟩) rfl (by kernel_rfl) (by rfl) ?_
  refine wp_newK 54 (evcs (.slice none 0 0) hdZ (.slice none 0 0) hdZ (.slice none 0 0) [] (.slice none 0 0) [] (.slice none 0 0)).toArray (fun k => .pointer (some ⟨k, 0, none⟩)) (fun w => by kernel_rfl) ?_
  intro k7 w' hk7 hh7 hl7 hb7
  have hq7 := TB.lt.1
  have hk7B : B + 1 < k7 := by omega
  refine ⟨hS.trans (hb7.mono (by omega)), ?_⟩
  replace hS := hS.trans (hb7.mono (by omega))
  have K7 := Blk.of_heap hh7 hl7
  have T7 : Typ w' k7 54 := ⟨_, hh7⟩
  have TB := TB.keep hb7
  try have CA := CA.keep hb7
  try have CB := CB.keep hb7
  try simp only [pna, pnb, pnc, pnd, pne]
  refine wpH_op 11 (oi := ⟨none,.store 54 (.tmp 7) (.tmp 39),0,"theorems.go:30",#[⟨10,.data⟩, ⟨9,.data⟩, ⟨8,.chain⟩, ⟨0,.phase⟩, ⟨1,.phase⟩, ⟨2,.phase⟩, ⟨3,.phase⟩, ⟨4,.phase⟩, ⟨5,.phase⟩, ⟨6,.phase⟩, ⟨7,.phase⟩, ⟨8,.phase⟩, ⟨9,.phase⟩, ⟨10,.phase⟩],none⟩) rfl (by kernel_rfl) (by rfl) ?_
  refine wp_rowST row_ev (.tmp 7) (.tmp 39) rfl rfl (vs := evcs (.slice (some ⟨w.heap.size, 0, none⟩) 4 4) h1 (.slice none h1.skips.length 0) h2 (.slice none h2.skips.length 0) (dgH h1) (.slice a1 3 c1) (dgH h2) (.slice a2 3 c2)) rfl rfl (by simp [evcs, hcs, Value.oneCell']) (us := evcs (.slice none 0 0) hdZ (.slice none 0 0) hdZ (.slice none 0 0) [] (.slice none 0 0) [] (.slice none 0 0)) rfl K7 T7 ?_
  intro w' K8 T8 m8
  have hq8 := TB.lt.1
  refine ⟨Below.mod hS m8 (by omega) (by simp; omega), ?_⟩
  replace hS := Below.mod hS m8 (by omega) (by simp; omega)
  have TB := TB.modF m8 (fun x hx => by rw [List.mem_singleton] at hx; subst hx; exact ⟨by omega, T7.foreign (by decide) (by omega)⟩)
  have CA := CA.modT m8 T7 (by decide)
  have CB := CB.modT m8 T7 (by decide)
  try simp only [pna, pnb, pnc, pnd, pne]
  refine wpAnyH_done (by kernel_rfl) ?_ _
  go_wp2_with fail
  go_meet
  exact ⟨k7, a1, c1, a2, c2, rfl, Lib.hid K8, Lib.hid CA, Lib.hid CB, hk7B, Lib.hid T8, Lib.hid (HC0.out ▸ TB), Lib.hid hS⟩
  refine wpO_op (oi := ⟨some 7,.alloc 54,0,"theorems.go:30",#[],none⟩) rfl (by rfl) ?_
  refine wp_newK 54 (evcs (.slice none 0 0) hdZ (.slice none 0 0) hdZ (.slice none 0 0) [] (.slice none 0 0) [] (.slice none 0 0)).toArray (fun k => .pointer (some ⟨k, 0, none⟩)) (fun w => by kernel_rfl) ?_
  intro k7 w' hk7 hh7 hl7 hb7
  have hq7 := TB.lt.1
  have hk7B : B + 1 < k7 := by omega
  refine ⟨hS.trans (hb7.mono (by omega)), ?_⟩
  replace hS := hS.trans (hb7.mono (by omega))
  have K7 := Blk.of_heap hh7 hl7
  have T7 : Typ w' k7 54 := ⟨_, hh7⟩
  have TB := TB.keep hb7
  try have CA := CA.keep hb7
  try have CB := CB.keep hb7
  try simp only [pna, pnb, pnc, pnd, pne]
  refine wpH_call 8 (oi := ⟨some 38,.call { callee := .value (.func 27), args := #[.tmp 36, .tmp 37, .const (Value.string { data := #[98, 99, 100] })], argTypes := #[43, 48, 9] },37,"theorems.go:30",#[⟨6,.data⟩, ⟨7,.data⟩, ⟨5,.chain⟩],none⟩) rfl (by kernel_rfl) (by rfl) (signw_p B (B + 1) _ [98, 99, 100] h2 none 0 _ (HS2.out _) (hk.keep (HB4.out.trans (hS.mono hsz))) TB (by decide)) ?_ ?_
  ·(go_simp; try rfl)
  rintro e w' ⟨sv2, rfl, CB, TB, hbx, ho⟩
  refine ⟨_, rfl, hS.trans hbx, ?_⟩
  replace hS := hS.trans hbx
  obtain ⟨a2, c2, hv2⟩ := CB.form
  subst hv2
  have CA := CA.orf ho (by omega)
  try have K7 := K7.orf (T7.foreign (by decide) (by omega)) ho
  try have T7 := T7.at (ho.block _ (T7.foreign (by decide) (by omega)))
  try simp only [pna, pnb, pnc, pnd, pne]
  refine wpH_load 9 (.agg (evcs (.slice (some ⟨w.heap.size, 0, none⟩) 4 4) h1 (.slice none h1.skips.length 0) h2 (.slice none h2.skips.length 0) (dgH h1) (.slice a1 3 c1) (dgH h2) (.slice a2 3 c2)).toArray) (oi := ⟨some 39,.build 54 #[(0, .tmp 30), (1, .tmp 31), (2, .tmp 32), (3, .tmp 35), (4, .tmp 38)],54,"theorems.go:30",#[⟨0,.data⟩, ⟨1,.data⟩, ⟨2,.data⟩, ⟨5,.data⟩, ⟨8,.data⟩],none⟩) rfl (by kernel_rfl) (by kernel_rfl) (by kernel_rfl) (by rfl) hS (fun _ _ _ h => h) (fun w' hb2 => (by kernel_rfl)) ?_
  try simp only [pna, pnb, pnc, pnd, pne]
  refine wpH_op 11 (oi := ⟨none,.store 54 (.tmp 7) (.tmp 39),0,"theorems.go:30",#[⟨10,.data⟩, ⟨9,.data⟩, ⟨8,.chain⟩, ⟨0,.phase⟩, ⟨1,.phase⟩, ⟨2,.phase⟩, ⟨3,.phase⟩, ⟨4,.phase⟩, ⟨5,.phase⟩, ⟨6,.phase⟩, ⟨7,.phase⟩, ⟨8,.phase⟩, ⟨9,.phase⟩, ⟨10,.phase⟩],none⟩) rfl (by kernel_rfl) (by rfl) ?_
  refine wp_rowST row_ev (.tmp 7) (.tmp 39) rfl rfl (vs := evcs (.slice (some ⟨w.heap.size, 0, none⟩) 4 4) h1 (.slice none h1.skips.length 0) h2 (.slice none h2.skips.length 0) (dgH h1) (.slice a1 3 c1) (dgH h2) (.slice a2 3 c2)) rfl rfl (by simp [evcs, hcs, Value.oneCell']) (us := evcs (.slice none 0 0) hdZ (.slice none 0 0) hdZ (.slice none 0 0) [] (.slice none 0 0) [] (.slice none 0 0)) rfl K7 T7 ?_
  intro w' K8 T8 m8
  have hq8 := TB.lt.1
  refine ⟨Below.mod hS m8 (by omega) (by simp; omega), ?_⟩
  replace hS := Below.mod hS m8 (by omega) (by simp; omega)
  have TB := TB.modF m8 (fun x hx => by rw [List.mem_singleton] at hx; subst hx; exact ⟨by omega, T7.foreign (by decide) (by omega)⟩)
  have CA := CA.modT m8 T7 (by decide)
  have CB := CB.modT m8 T7 (by decide)
  try simp only [pna, pnb, pnc, pnd, pne]
  refine wpAnyH_done (by kernel_rfl) ?_ _
  go_wp2_with fail
  go_meet
  exact ⟨k7, a1, c1, a2, c2, rfl, Lib.hid K8, Lib.hid CA, Lib.hid CB, hk7B, Lib.hid T8, Lib.hid (HC0.out ▸ TB), Lib.hid hS⟩
  refine wpO_op (oi := ⟨some 7,.alloc 54,0,"theorems.go:30",#[],none⟩) rfl (by rfl) ?_
  refine wp_newK 54 (evcs (.slice none 0 0) hdZ (.slice none 0 0) hdZ (.slice none 0 0) [] (.slice none 0 0) [] (.slice none 0 0)).toArray (fun k => .pointer (some ⟨k, 0, none⟩)) (fun w => by kernel_rfl) ?_
  intro k7 w' hk7 hh7 hl7 hb7
  have hq7 := TB.lt.1
  have hk7B : B + 1 < k7 := by omega
  refine ⟨hS.trans (hb7.mono (by omega)), ?_⟩
  replace hS := hS.trans (hb7.mono (by omega))
  have K7 := Blk.of_heap hh7 hl7
  have T7 : Typ w' k7 54 := ⟨_, hh7⟩
  have TB := TB.keep hb7
  try have CA := CA.keep hb7
  try have CB := CB.keep hb7
  try simp only [pna, pnb, pnc, pnd, pne]
  refine wpH_call 5 (oi := ⟨some 35,.call { callee := .value (.func 27), args := #[.tmp 33, .tmp 34, .const (Value.string { data := #[97, 98, 99] })], argTypes := #[43, 48, 9] },37,"theorems.go:30",#[⟨3,.data⟩, ⟨4,.data⟩],none⟩) rfl (by kernel_rfl) (by rfl) (signw_p B (B + 1) [] [97, 98, 99] h1 none 0 _ (HS1.out _) (hk.keep (HB4.out.trans (hS.mono hsz))) TB (by decide)) ?_ ?_
  ·(go_simp; try rfl)
  rintro e w' ⟨sv1, rfl, CA, TB, hbx, ho⟩
  refine ⟨_, rfl, hS.trans hbx, ?_⟩
  replace hS := hS.trans hbx
  obtain ⟨a1, c1, hv1⟩ := CA.form
  subst hv1
  try have K7 := K7.orf (T7.foreign (by decide) (by omega)) ho
  try have T7 := T7.at (ho.block _ (T7.foreign (by decide) (by omega)))
  have hq1 := TB.lt.1
  try simp only [pna, pnb, pnc, pnd, pne]
  refine wpH_call 8 (oi := ⟨some 38,.call { callee := .value (.func 27), args := #[.tmp 36, .tmp 37, .const (Value.string { data := #[98, 99, 100] })], argTypes := #[43, 48, 9] },37,"theorems.go:30",#[⟨6,.data⟩, ⟨7,.data⟩, ⟨5,.chain⟩],none⟩) rfl (by kernel_rfl) (by rfl) (signw_p B (B + 1) _ [98, 99, 100] h2 none 0 _ (HS2.out _) (hk.keep (HB4.out.trans (hS.mono hsz))) TB (by decide)) ?_ ?_
  ·(go_simp; try rfl)
  rintro e w' ⟨sv2, rfl, CB, TB, hbx, ho⟩
  refine ⟨_, rfl, hS.trans hbx, ?_⟩
  replace hS := hS.trans hbx
  obtain ⟨a2, c2, hv2⟩ := CB.form
  subst hv2
  have CA := CA.orf ho (by omega)
  try have K7 := K7.orf (T7.foreign (by decide) (by omega)) ho
  try have T7 := T7.at (ho.block _ (T7.foreign (by decide) (by omega)))
  try simp only [pna, pnb, pnc, pnd, pne]
  refine wpH_load 9 (.agg (evcs (.slice (some ⟨w.heap.size, 0, none⟩) 4 4) h1 (.slice none h1.skips.length 0) h2 (.slice none h2.skips.length 0) (dgH h1) (.slice a1 3 c1) (dgH h2) (.slice a2 3 c2)).toArray) (oi := ⟨some 39,.build 54 #[(0, .tmp 30), (1, .tmp 31), (2, .tmp 32), (3, .tmp 35), (4, .tmp 38)],54,"theorems.go:30",#[⟨0,.data⟩, ⟨1,.data⟩, ⟨2,.data⟩, ⟨5,.data⟩, ⟨8,.data⟩],none⟩) rfl (by kernel_rfl) (by kernel_rfl) (by kernel_rfl) (by rfl) hS (fun _ _ _ h => h) (fun w' hb2 => (by kernel_rfl)) ?_
  try simp only [pna, pnb, pnc, pnd, pne]
  refine wpH_op 11 (oi := ⟨none,.store 54 (.tmp 7) (.tmp 39),0,"theorems.go:30",#[⟨10,.data⟩, ⟨9,.data⟩, ⟨8,.chain⟩, ⟨0,.phase⟩, ⟨1,.phase⟩, ⟨2,.phase⟩, ⟨3,.phase⟩, ⟨4,.phase⟩, ⟨5,.phase⟩, ⟨6,.phase⟩, ⟨7,.phase⟩, ⟨8,.phase⟩, ⟨9,.phase⟩, ⟨10,.phase⟩],none⟩) rfl (by kernel_rfl) (by rfl) ?_
  refine wp_rowST row_ev (.tmp 7) (.tmp 39) rfl rfl (vs := evcs (.slice (some ⟨w.heap.size, 0, none⟩) 4 4) h1 (.slice none h1.skips.length 0) h2 (.slice none h2.skips.length 0) (dgH h1) (.slice a1 3 c1) (dgH h2) (.slice a2 3 c2)) rfl rfl (by simp [evcs, hcs, Value.oneCell']) (us := evcs (.slice none 0 0) hdZ (.slice none 0 0) hdZ (.slice none 0 0) [] (.slice none 0 0) [] (.slice none 0 0)) rfl K7 T7 ?_
  intro w' K8 T8 m8
  have hq8 := TB.lt.1
  refine ⟨Below.mod hS m8 (by omega) (by simp; omega), ?_⟩
  replace hS := Below.mod hS m8 (by omega) (by simp; omega)
  have TB := TB.modF m8 (fun x hx => by rw [List.mem_singleton] at hx; subst hx; exact ⟨by omega, T7.foreign (by decide) (by omega)⟩)
  have CA := CA.modT m8 T7 (by decide)
  have CB := CB.modT m8 T7 (by decide)
  try simp only [pna, pnb, pnc, pnd, pne]
  refine wpAnyH_done (by kernel_rfl) ?_ _
  go_wp2_with fail
  go_meet
  exact ⟨k7, a1, c1, a2, c2, rfl, Lib.hid K8, Lib.hid CA, Lib.hid CB, hk7B, Lib.hid T8, Lib.hid (HC0.out ▸ TB), Lib.hid hS⟩
 case rest =>
  obtain ⟨k7, a1, c1, a2, c2, rfl, HE7, HA, HB2, hk7, HT7, HT, HBB⟩ := hcut
  obtain ⟨w5, hw5⟩ : ∃ w', w' = wc := ⟨_, rfl⟩
  subst hw5
  have M5 := M4.out.belowW HBB.out (by omega)
  have hb05 := HB4.out.trans (HBB.out.mono hsz)
  have q10 := wcheck_any four4 h1 h2 (dgH h1) (dgH h2) [[97], [98], [99]] [[98], [99], [100]] (.slice (some ⟨w.heap.size, 0, none⟩) 4 4) none none a1 a2 0 0 c1 c2 B (B + 1) tab4 w5 M5 (HS1.out _) (HS2.out _) HA.out.ss HB2.out.ss HT.out (hk.keep hb05)
  rw [HC1.out, HC2.out.1, both4] at q10
  have hB5 := HT.out.lt.1
  clear hT4 H4 H5 HBB M4 HB4 hK4
  go_wp2_with (first
   | (refine wpList_rowR row_ev rfl (.tmp 7) rfl rfl (vs := evcs (.slice (some ⟨w.heap.size, 0, none⟩) 4 4) h1 (.slice none h1.skips.length 0) h2 (.slice none h2.skips.length 0) (dgH h1) (.slice a1 3 c1) (dgH h2) (.slice a2 3 c2)) rfl HE7.out.range ?_)
   | fail)
  refine q10.mono ?_
  rintro e w6 ⟨v6, rfl, hv6, _, hb6⟩
  have S6 := hv6 (by first | rfl | trivial)
  obtain ⟨va, vc, hva⟩ := S6.form
  subst hva
  have HS6 := Lib.hid S6
  have K6 := HE7.out.keep hb6
  have T6 := HT7.out.keep hb6
  have c26 := K6.cell 26
  have f26 := K6.froz 26
  have l26 := K6.lt
  simp only [evcs, hcs, List.cons_append, List.nil_append, List.getElem?_toArray, List.getElem?_cons_zero, List.getElem?_cons_succ] at c26
  clear q10 hv6
  go_upto_region 12 with fail
  have K8 : Blk ((w6.setCell ⟨k7, 26, none⟩ (.slice (some ⟨w6.heap.size, 0, none⟩) 2 2)).alloc (.cells #[.string ⟨List.toArray ([98])⟩, .string ⟨List.toArray ([99])⟩] 9)) k7 (evcs (.slice (some ⟨w.heap.size, 0, none⟩) 4 4) h1 (.slice none h1.skips.length 0) h2 (.slice none h2.skips.length 0) (dgH h1) (.slice a1 3 c1) (dgH h2) (.slice (some ⟨w6.heap.size, 0, none⟩) 2 2)).toArray := by
   have := (K6.set 26 (.slice (some ⟨w6.heap.size, 0, none⟩) 2 2)).alloc (.cells #[.string ⟨List.toArray ([98])⟩, .string ⟨List.toArray ([99])⟩] 9)
   exact this
  have m7 : Mod [k7] w6 ((w6.setCell ⟨k7, 26, none⟩ (.slice (some ⟨w6.heap.size, 0, none⟩) 2 2)).alloc (.cells #[.string ⟨List.toArray ([98])⟩, .string ⟨List.toArray ([99])⟩] 9)) := ((Mod.refl _ _).setCell (.inl (by simp)) _).alloc _
  have hl7 : (w6.setCell ⟨k7, 26, none⟩ (.slice (some ⟨w6.heap.size, 0, none⟩) 2 2)).heap.size = w6.heap.size := by simp
  have K9 : Blk ((w6.setCell ⟨k7, 26, none⟩ (.slice (some ⟨w6.heap.size, 0, none⟩) 2 2)).alloc (.cells #[.string ⟨List.toArray ([98])⟩, .string ⟨List.toArray ([99])⟩] 9)) w6.heap.size #[.string ⟨List.toArray ([98])⟩, .string ⟨List.toArray ([99])⟩] := Blk.new' hl7.symm
  have S7 : SS ((w6.setCell ⟨k7, 26, none⟩ (.slice (some ⟨w6.heap.size, 0, none⟩) 2 2)).alloc (.cells #[.string ⟨List.toArray ([98])⟩, .string ⟨List.toArray ([99])⟩] 9)) (.slice (some ⟨w6.heap.size, 0, none⟩) 2 2) [[98], [99]] := by
   refine SS.of (l := [[98], [99]]) (by decide) (by unfold maxLen; omega) (by simp) (fun i hi => ?_)
   have hi3 : i < 2 := hi
   rcases (show i = 0 ∨ i = 1 from by omega) with rfl | rfl
   ·exact K9.cell 0
   ·exact K9.cell 1
  have f7 := T6.foreign (p := B + 1) (by decide) (by omega)
  have T7 := (HT.out.keep hb6).modF m7 (fun x hx => by rw [List.mem_singleton] at hx; subst hx; exact ⟨hk7, f7⟩)
  have hb06 := hb05.trans (hb6.mono hb05.size)
  have hb07 := Below.mod hb06 m7 hb06.size (by simp; omega)
  have A7 := (HA.out.keep hb6).modT m7 T6 (by decide)
  have M7 := (M5.keep hb6).modW m7 (by simp; omega)
  have q12 := wcheck_any four4 h1 h2 (dgH h1) (dgH h2) [[97], [98], [99]] [[98], [99]] (.slice (some ⟨w.heap.size, 0, none⟩) 4 4) none none a1 (some ⟨w6.heap.size, 0, none⟩) 0 0 c1 2 B (B + 1) tab4 _ M7 (HS1.out _) (HS2.out _) A7.ss S7 T7 (hk.keep hb07)
  rw [HC1.out, HC2.out.2] at q12
  have hk5 : k7 < w5.heap.size := HE7.out.lt
  have S7' := Lib.hid (HS6.out.mod m7 hk5)
  have hsz7 := m7.size
  have HB7 := Lib.hid hb07
  clear K6 T6 c26 f26 m7 f7 T7 A7 M7 hb06 S7 HS6 S6 K9 hb07
  go_wp2_with (first
   | (refine wpList_rowR row_ev rfl (.tmp 7) rfl rfl (vs := evcs (.slice (some ⟨w.heap.size, 0, none⟩) 4 4) h1 (.slice none h1.skips.length 0) h2 (.slice none h2.skips.length 0) (dgH h1) (.slice a1 3 c1) (dgH h2) (.slice (some ⟨w6.heap.size, 0, none⟩) 2 2)) rfl K8.range ?_)
   | fail)
  refine q12.mono ?_
  rintro e w8 ⟨v8, rfl, _, hv8, hb8⟩
  have hv := hv8 (by first | decide | trivial)
  subst hv
  have S8 := Lib.hid (S7'.out.keep hb8)
  have hb08 := HB7.out.trans (hb8.mono (by omega))
  have hx9 : Below w8.heap.size w8 (w8.alloc (.cells #[.string ⟨List.toArray ([98])⟩, .string ⟨List.toArray ([99])⟩] 9)) := Below.allocS (Below.refl _ _) _
  have S9 : SS (w8.alloc (.cells #[.string ⟨List.toArray ([98])⟩, .string ⟨List.toArray ([99])⟩] 9)) (.slice (some ⟨w8.heap.size, 0, none⟩) 2 2) [[98], [99]] := by
   refine SS.of (l := [[98], [99]]) (by decide) (by unfold maxLen; omega) (by simp) (fun i hi => ?_)
   have hi3 : i < 2 := hi
   rcases (show i = 0 ∨ i = 1 from by omega) with rfl | rfl
   ·exact (Blk.new w8 #[.string ⟨List.toArray ([98])⟩, .string ⟨List.toArray ([99])⟩] 9).cell 0
   ·exact (Blk.new w8 #[.string ⟨List.toArray ([98])⟩, .string ⟨List.toArray ([99])⟩] 9).cell 1
  have q13 := sametexts_self (.slice va 2 vc) (.slice (some ⟨w8.heap.size, 0, none⟩) 2 2) [[98], [99]] _ (S8.out.keep hx9).ss S9
  have hb09 := hb08.trans (hx9.mono hb08.size)
  clear q12 hv8 hx9 S9
  go_wp2_with fail
  refine q13.mono ?_
  rintro e w9 ⟨rfl, n, rfl⟩
  go_wp2_with fail
  go_ret
  exact ⟨rfl, below_drewN hb09 n⟩
end Go.Proofs.YthkpmlfaddlieaaGreatDoor
