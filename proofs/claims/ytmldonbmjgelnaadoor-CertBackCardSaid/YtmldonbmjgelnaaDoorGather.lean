/- The certificate of all who signed: the program's. -/
import Derived.Test.YtmldonbmjgelnaaDoorCheckC
set_option linter.unusedSimpArgs false
set_option linter.unusedVariables false
namespace Go.Proofs.YtmldonbmjgelnaaDoor
open Go.RowKit Pl

namespace Pl
def selN (L : List Sg) (m : Bs) (l : List (Bs × Int)) : List Bs := (l.filter fun x => isIn L x.1 m).map (·.1)
theorem selN_take (L : List Sg) (m : Bs) (l : List (Bs × Int)) (i : Nat) (hi : i < l.length) : selN L m (l.take (i + 1)) = selN L m (l.take i) ++ (if isIn L (l.getD i ([], 0)).1 m then [(l.getD i ([], 0)).1] else []) := by
  rw [take_getD l i hi]
  unfold selN
  rw [List.filter_append, List.map_append]
  congr 1
  cases h : isIn L (l.getD i ([], 0)).1 m
  · rw [List.filter_cons_of_neg (by rw [h]; simp)]; simp
  · rw [List.filter_cons_of_pos (by rw [h])]; simp
theorem selN_len (L : List Sg) (m : Bs) (l : List (Bs × Int)) : (selN L m l).length ≤ l.length := by
  unfold selN
  rw [List.length_map]
  exact List.length_filter_le _ _
theorem selN_mem (L : List Sg) (m : Bs) (l : List (Bs × Int)) : ∀ n ∈ selN L m l, ∃ x ∈ l, x.1 = n := by
  intro n hn
  unfold selN at hn
  obtain ⟨x, hx, rfl⟩ := List.mem_map.1 hn
  exact ⟨x, (List.mem_filter.1 hx).1, rfl⟩
theorem selN_short (L : List Sg) (m : Bs) (l : List (Bs × Int)) (h : ∀ i, i < l.length → (l.getD i ([], 0)).1.length ≤ 6) : ∀ j, j < (selN L m l).length → ((selN L m l).getD j []).length ≤ 6 := by
  intro j hj
  have hmem : (selN L m l).getD j [] ∈ selN L m l := by
    rw [List.getD_eq_getElem?_getD, List.getElem?_eq_getElem hj]
    exact List.getElem_mem hj
  obtain ⟨x, hx, he⟩ := selN_mem L m l _ hmem
  rw [← he]
  obtain ⟨i, hi, rfl⟩ := List.getElem_of_mem hx
  have := h i hi
  rw [List.getD_eq_getElem?_getD, List.getElem?_eq_getElem hi] at this
  exact this
def gathIn (l : List (Bs × Int)) (s m : Bs) (L : List Sg) : (Bs × List Bs) × Int :=
  if ofM l (selN L m l) < quoM l then (([], []), 71) else ((s, selN L m l), 0)
def gathC (tag : Int) (l : List (Bs × Int)) (s : Bs) (L : List Sg) : (Bs × List Bs) × Int :=
  if firstC tag l (decide (s.length = 32)) ≠ 0 then (([], []), firstC tag l (decide (s.length = 32))) else gathIn l s (tagP tag.toNat s) L
theorem gathC_in {tag : Int} {l : List (Bs × Int)} {s : Bs} {L : List Sg} (h : firstC tag l (decide (s.length = 32)) = 0) : gathC tag l s L = gathIn l s (tagP tag.toNat s) L := by
  unfold gathC
  rw [if_neg (by simpa using h)]
theorem gathC_out {tag : Int} {l : List (Bs × Int)} {s : Bs} {L : List Sg} (h : firstC tag l (decide (s.length = 32)) ≠ 0) : gathC tag l s L = (([], []), firstC tag l (decide (s.length = 32))) := by
  unfold gathC
  rw [if_pos h]
theorem first_zero {tag : Int} {l : List (Bs × Int)} {fine : Bool} (he : firstC tag l fine = 0) : fine = true ∧ tagC tag = true ∧ chkM l = true := by
  unfold firstC at he
  cases hq : tagC tag
  · simp [hq] at he
  · cases hq2 : chkM l
    · simp [hq, hq2] at he
    · cases fine
      · simp [hq, hq2] at he
      · exact ⟨rfl, rfl, rfl⟩
end Pl

set_option maxRecDepth 100000 in
set_option maxHeartbeats 1000000 in
theorem cgather_any (tag : Int) (v : Value) (l : List (Bs × Int)) (s : Bs) (base p : Nat) (L : List Sg) (hs : s.length ≤ 1000000) (w : World) (hv : MS w v l) (hT : Tab w base p L) (hk : KT w) :
    Calls Tryd.prog 82 #[.int .i64 (tag), v, .string ⟨List.toArray (s)⟩, .pointer (some ⟨p, 0, none⟩)] w fun e w' => ∃ u, e = .returned (.tuple #[.agg #[.string ⟨List.toArray ((gathC tag l s L).1.1)⟩, u], .int .i64 ((gathC tag l s L).2)]) ∧ SRow w' w.heap.size u (gathC tag l s L).1.2 ∧ Below w.heap.size w w' := by
  generalize hr : gathC tag l s L = r
  have HR := Lib.hid hr
  clear hr
  obtain ⟨a, c, rfl⟩ := hv.form
  have hb0 : Below w.heap.size w (w.alloc (.cells #[.string ⟨List.toArray ([])⟩, .slice none 0 0] 51)) := Below.allocS (Below.refl _ _) _
  have B0 : Blk (w.alloc (.cells #[.string ⟨List.toArray ([])⟩, .slice none 0 0] 51)) w.heap.size #[.string ⟨List.toArray ([])⟩, .slice none 0 0] := Blk.new _ _ _
  have HV := Lib.hid hv
  have HT := Lib.hid hT
  have hlm := hv.small
  clear hv hT
  have h32 : ((s.length : Int) == 32) = decide (s.length = 32) := by
    by_cases h : s.length = 32
    · simp [h]
    · have h2 : ¬ (s.length : Int) = 32 := by omega
      simp [h, h2]
  generalize hfin : decide (s.length = 32) = fine at *
  have HF := Lib.hid hfin
  clear hfin
  go_enter Tryd.func82, Tryd.ntmps82
  go_wp2_with fail
  refine (cfirst_any tag _ l fine _ (HV.out.keep hb0)).mono ?_
  rintro e w2 ⟨rfl, hb⟩
  have hb2 := hb0.trans (hb.mono hb0.size)
  have B2 := B0.keep hb
  clear hb hb0 B0
  by_cases he : firstC tag l fine = 0
  · have HR2 : Hid (gathIn l s (tagP tag.toNat s) L = r) := Lib.hid (by rw [← HR.out, gathC_in (by rw [HF.out]; exact he)])
    obtain ⟨rfl, htg, hcm⟩ := first_zero he
    have hsl : s.length = 32 := by have := HF.out; simpa using this
    have hmk : markP tag s = (tagP tag.toNat s, 0) := by simp [markP, htg, hsl]
    have HMK := Lib.hid hmk
    have HSL := Lib.hid hsl
    rw [he]
    clear he HR hmk hsl htg h32
    go_wp2_with fail
    refine (cmark_any tag s hs _ (hk.keep hb2)).mono ?_
    rintro e w4 ⟨rfl, hb⟩
    rw [HMK.out]
    have hb4 := hb2.trans (hb.mono hb2.size)
    have B4 := B2.keep hb
    clear hb hb2 B2
    have hml : (tagP tag.toNat s).length = 32 := tagP_len _ _
    generalize tagP tag.toNat s = m at *
    have HML := Lib.hid hml
    clear hml
    simp only [chkM, Bool.and_eq_true, decide_eq_true_eq] at hcm
    have h7 := hcm.1.2
    have HO := Lib.hid (okM_at l [] hcm.2)
    clear hcm
    go_wp2_with fail
    have hq1 : w.heap.size < w4.heap.size := B4.lt
    go_loopw [36] (fun s36 wr => ∃ (i : Nat) (u : Value), i ≤ l.length ∧ s36 = .int .i64 i ∧ Blk wr w4.heap.size #[.string ⟨List.toArray (s)⟩, u] ∧ SRow wr (w4.heap.size + 1) u (selN L m (l.take i)) ∧ Below w4.heap.size w4 wr) (fun s36 _ => l.length - (intOf s36).toNat)
    case atStart => exact ⟨0, .slice none 0 0, by omega, rfl, Blk.new _ _ _, by simpa [selN] using SRow.nil _ _, Below.allocS (Below.refl _ _) _⟩
    case round =>
      obtain ⟨i, u, hi, rfl, C, hS, hbq⟩ := hrel
      obtain ⟨wq, h⟩ := Below.nm hbq
      subst h
      have hb5 := hb4.trans (hbq.mono hb4.size)
      have hqs := hbq.size
      have hql := C.lt
      by_cases hlt : i < l.length
      · obtain ⟨g, off, rfl, hg, c1, c2⟩ := (HV.out.keep hb5).at i hlt
        obtain ⟨o1, o2, o3⟩ := HO.out i hlt
        have hnx := selN_take L m l i hlt
        have hsl := selN_len L m (l.take i)
        rw [List.length_take] at hsl
        generalize hx : l.getD i ([], 0) = x at *
        obtain ⟨n, z⟩ := x
        simp only at c1 c2 hnx o1 o2 o3
        have HNX := Lib.hid hnx
        clear hx hnx
        generalize selN L m (l.take i) = ns at *
        have hb6 := Below.allocS hb5 (.cells #[.string ⟨List.toArray (n)⟩, .int .i64 (z)] 63)
        have C6 := C.alloc (.cells #[.string ⟨List.toArray (n)⟩, .int .i64 (z)] 63)
        have hS6 := hS.alloc (.cells #[.string ⟨List.toArray (n)⟩, .int .i64 (z)] 63)
        have D6 : Blk (wq.alloc (.cells #[.string ⟨List.toArray (n)⟩, .int .i64 (z)] 63)) wq.heap.size #[.string ⟨List.toArray (n)⟩, .int .i64 (z)] := Blk.new _ _ _
        have hbq6 := Below.allocS hbq (.cells #[.string ⟨List.toArray (n)⟩, .int .i64 (z)] 63)
        go_wp2_with fail
        refine (osigned_any base p L n m (by omega) (by have := HML.out; omega) _ (HT.out.keep hb6)).mono ?_
        rintro e w7 ⟨rfl, hb⟩
        have hb7 := hb6.trans (hb.mono hb6.size)
        have hbq7 := hbq6.trans (hb.mono hbq6.size)
        have C7 := C6.keep hb
        have D7 := D6.keep hb
        have hS7 := hS6.keep hb
        clear hb hb6 hbq6 C6 D6 hS6 hb5 hbq C hS
        cases hq : isIn L n m
        · have HN2 : Hid (selN L m (l.take (i + 1)) = ns) := Lib.hid (by rw [HNX.out, hq]; simp)
          clear HNX hq
          go_wp2_with fail
          exact ⟨⟨i + 1, u, by omega, by go_num, C7, by rw [HN2.out]; exact hS7, hbq7⟩, by simp [intOf]; omega⟩
        · have HN2 : Hid (selN L m (l.take (i + 1)) = ns ++ [n]) := Lib.hid (by rw [HNX.out, hq]; simp)
          clear HNX hq
          obtain ⟨b1, b2, b3⟩ := id C7
          obtain ⟨d1, d2, d3⟩ := id D7
          obtain ⟨ua, uc, rfl⟩ := hS7.form
          have hq7 := C7.lt
          go_wp2_with (first
            | (at_builtin; refine wpList_appS rfl (.tmp 46) (.tmp 49) rfl (w4.heap.size + 1) _ ns rfl (hS7.alloc _) w7.heap.size 0 1 1 [n] rfl rfl (ssrc1 _ _ _) (by simp; omega) (by simp; omega) ?_; rintro v8 w8 hS8 hb8; obtain ⟨va8, vc8, rfl⟩ := hS8.form; have C8 := (C7.alloc (.cells #[.string ⟨List.toArray (n)⟩] 9)).of_block (hb8.block w4.heap.size (Nat.lt_succ_self _)) hb8.size; clear b1 b2 b3; obtain ⟨b1, b2, b3⟩ := id C8)
            | fail)
          have hbq8 : Below w4.heap.size w4 w8 := (Below.allocS hbq7 (.cells #[.string ⟨List.toArray (n)⟩] 9)).trans (hb8.mono (Nat.le_succ _))
          refine ⟨⟨i + 1, _, by omega, by go_num, C8.set 1 _, ?_, hbq8.setCell (by simp) _⟩, by simp [intOf]; omega⟩
          rw [HN2.out]
          rw [show (ns ++ [n]).length = ns.length + 1 from by simp] at hS8
          exact hS8.mod (p := w4.heap.size) ((Mod.refl _ _).setCell (.inl (by simp)) _) (Nat.lt_succ_self _)
      · obtain rfl : i = l.length := by omega
        rw [List.take_length] at hS
        have hnl := selN_len L m l
        have hns6 : ∀ j, j < (selN L m l).length → ((selN L m l).getD j []).length ≤ maxLen := by
          intro j hj
          have := selN_short L m l (fun i hi => (HO.out i hi).1) j hj
          unfold maxLen; omega
        have HR3 : Hid ((if ofM l (selN L m l) < quoM l then (([], []), 71) else ((s, selN L m l), (0 : Int))) = r) := HR2
        clear HR2
        generalize selN L m l = ns at *
        obtain ⟨b1, b2, b3⟩ := id C
        obtain ⟨ua, uc, rfl⟩ := hS.form
        go_wp2_with fail
        refine (mof_any _ _ l ns (by omega) hns6 _ (HV.out.keep hb5) hS.ss).mono ?_
        rintro e w6 ⟨rfl, hb⟩
        have hb6 := hb5.trans (hb.mono hb5.size)
        have C6 := C.keep hb
        have hS6 := hS.keep hb
        have B6 := (B4.keep hbq).keep hb
        clear hb hb5 C hS hbq b1 b2 b3 B4
        go_wp2_with fail
        refine (mquorum_any _ l _ (HV.out.keep hb6)).mono ?_
        rintro e w7 ⟨rfl, hb⟩
        have hb7 := hb6.trans (hb.mono hb6.size)
        have C7 := C6.keep hb
        have hS7 := hS6.keep hb
        have B7 := B6.keep hb
        clear hb hb6 C6 hS6 B6
        obtain ⟨b1, b2, b3⟩ := id B7
        obtain ⟨d1, d2, d3⟩ := id C7
        generalize ofM l ns = x at *
        generalize quoM l = y at *
        by_cases hxy : x < y
        · have HZ : Hid ((([], []), (71 : Int)) = r) := Lib.hid (by rw [← HR3.out, if_pos hxy])
          have hd : decide (x < y) = true := by simpa using hxy
          clear HR3
          go_wp2_with fail
          refine bodyPost_ret (results_ct rfl _ _ _ _ rfl (rowC_load (x := .string ⟨List.toArray ([])⟩) (y := .slice none 0 0) ((B7.set 0 _).set 1 _))) rfl ?_
          refine ⟨.slice none 0 0, ?_, ?_, ?_⟩
          · rw [← HZ.out]; rfl
          · rw [← HZ.out]; exact SRow.nil _ _
          · (repeat (first | exact Below.refl _ _ | assumption | apply Below.drew | apply below_drewN | apply Below.allocS | (refine Below.setCell ?_ (by simp <;> omega) _) | (refine Below.alloc ?_ (by simp <;> omega) _) | (refine Below.trans ?_ (Below.mono (by assumption) (by simp <;> omega)))))
        · have HZ : Hid (((s, ns), (0 : Int)) = r) := Lib.hid (by rw [← HR3.out, if_neg hxy])
          have hd : decide (x < y) = false := by simpa using hxy
          clear HR3
          go_wp2_with fail
          refine bodyPost_ret (results_ct rfl _ _ _ _ rfl (rowC_load (x := .string ⟨List.toArray (s)⟩) (y := .slice ua ns.length uc) ((B7.set 0 _).set 1 _))) rfl ?_
          refine ⟨.slice ua ns.length uc, ?_, ?_, ?_⟩
          · rw [← HZ.out]; rfl
          · rw [← HZ.out]; exact (SRow.mod (p := w.heap.size) hS7 (((Mod.refl _ _).setCell (.inl (by simp)) _).setCell (.inl (by simp)) _) (by omega)).low (by omega)
          · (repeat (first | exact Below.refl _ _ | assumption | apply Below.drew | apply below_drewN | apply Below.allocS | (refine Below.setCell ?_ (by simp <;> omega) _) | (refine Below.alloc ?_ (by simp <;> omega) _) | (refine Below.trans ?_ (Below.mono (by assumption) (by simp <;> omega)))))
  · have HR2 : Hid ((([], []), firstC tag l fine) = r) := Lib.hid (by rw [← HR.out, gathC_out (by rw [HF.out]; exact he), HF.out])
    have he1 : (firstC tag l fine != 0) = true := by simpa using he
    generalize firstC tag l fine = e0 at *
    obtain ⟨b1, b2, b3⟩ := id B2
    clear HR HF
    go_wp2_with fail
    refine bodyPost_ret (results_ct rfl _ _ _ _ rfl (rowC_load (x := .string ⟨List.toArray ([])⟩) (y := .slice none 0 0) ((B2.set 0 _).set 1 _))) rfl ?_
    refine ⟨.slice none 0 0, ?_, ?_, ?_⟩
    · rw [← HR2.out]; rfl
    · rw [← HR2.out]; exact SRow.nil _ _
    · (repeat (first | exact Below.refl _ _ | assumption | apply Below.drew | apply below_drewN | apply Below.allocS | (refine Below.setCell ?_ (by simp <;> omega) _) | (refine Below.alloc ?_ (by simp <;> omega) _) | (refine Below.trans ?_ (Below.mono (by assumption) (by simp <;> omega)))))
end Go.Proofs.YtmldonbmjgelnaaDoor
