/- Walk of the statement PowerTells. -/
import Derived.Test.YtmldonbmjgelnaaDoorSort
import Derived.Test.YtmldonbmjgelnaaDoorRBoth
import Derived.Test.YtmldonbmjgelnaaDoorLend
import Derived.Test.YtmldonbmjgelnaaDoorMWorks
import Derived.Test.YtmldonbmjgelnaaDoorSame
set_option linter.unusedSimpArgs false
set_option linter.unusedVariables false
namespace Go.Proofs.YtmldonbmjgelnaaDoor
open Go.RowKit Pl

theorem MRow.empty (w : World) (base : Nat) (hb : base ≤ w.heap.size) : MRow (w.alloc (.cells #[] 63)) base (.slice (some ⟨w.heap.size, 0, none⟩) 0 0) [] :=
  ⟨rfl, .inr ⟨w.heap.size, 0, #[], rfl, hb, by simp [World.alloc, -World.alloc_eq], Nat.le_refl _, by unfold maxLen; omega, rfl, rfl⟩⟩

set_option maxRecDepth 100000 in
set_option maxHeartbeats 2000000 in
theorem tells_any (v ua ub : Value) (l : List (Bs × Int)) (a b : List Bs) (hal : ∀ i, i < a.length → (a.getD i []).length ≤ maxLen) (hbl : ∀ i, i < b.length → (b.getD i []).length ≤ maxLen) (w : World) (hv : MS w v l) (ha : SS w ua a) (hb : SS w ub b) (hk : KT w) :
    Calls Tryd.prog 10 #[v, ua, ub] w fun e w' => e = .returned (.bool true) ∧ Below w.heap.size w w' := by
  obtain ⟨p, c, rfl⟩ := hv.form
  obtain ⟨pa, ca, rfl⟩ := ha.form
  obtain ⟨pb, cb, rfl⟩ := hb.form
  have hW := works5_any _ hk
  by_cases h1 : 50 < a.length
  · have d1 : decide ((50 : Int) < (a.length : Int)) = true := by simp; omega
    clear hv ha hb
    go_enter Tryd.func10, Tryd.ntmps10
    go_wp2_with fail
    refine hW.mono ?_
    rintro e w2 ⟨rfl, hb⟩
    go_wp2_with fail
    all_goals (go_ret; exact ⟨rfl, hb⟩)
  · have d1 : decide ((50 : Int) < (a.length : Int)) = false := by simp; omega
    by_cases h2 : 50 < b.length
    · have d2 : decide ((50 : Int) < (b.length : Int)) = true := by simp; omega
      clear hv ha hb
      go_enter Tryd.func10, Tryd.ntmps10
      go_wp2_with fail
      refine hW.mono ?_
      rintro e w2 ⟨rfl, hb⟩
      go_wp2_with fail
      all_goals (go_ret; exact ⟨rfl, hb⟩)
    · have d2 : decide ((50 : Int) < (b.length : Int)) = false := by simp; omega
      by_cases h3 : 1000 < l.length
      · have d3 : decide ((1000 : Int) < (l.length : Int)) = true := by simp; omega
        clear hv ha hb
        go_enter Tryd.func10, Tryd.ntmps10
        go_wp2_with fail
        refine hW.mono ?_
        rintro e w2 ⟨rfl, hb⟩
        go_wp2_with fail
        all_goals (go_ret; exact ⟨rfl, hb⟩)
      · have d3 : decide ((1000 : Int) < (l.length : Int)) = false := by simp; omega
        clear hW
        have HV := Lib.hid hv
        have HA := Lib.hid ha
        have HB := Lib.hid hb
        have HE := Lib.hid (MRow.empty w w.heap.size (Nat.le_refl _))
        have hx : Below w.heap.size w (w.alloc (.cells #[] 63)) := Below.allocS (Below.refl _ _) _
        clear hv ha hb
        go_enter Tryd.func10, Tryd.ntmps10
        go_wp2_with (first
          | (at_builtin; refine wpList_appMM rfl (.tmp 26) (.tmp 27) rfl w.heap.size _ [] rfl HE.out _ l rfl (HV.out.keep hx) (by simp; omega) (by simp) ?_; rintro v1 w1 hM1 hb1; rw [List.nil_append] at hM1)
          | fail)
        replace hb1 := hx.trans hb1
        refine (lend_any _ a (by omega) _ (HA.out.keep hb1)).mono ?_
        rintro e w2 ⟨x, rfl, hX2, hb⟩
        have hM2 := hM1.keep hb
        have hb2 := hb1.trans (hb.mono hb1.size)
        have hz1 := hb1.size
        clear hx hb hM1
        go_wp2_with fail
        refine (lend_any _ b (by omega) _ (HB.out.keep hb2)).mono ?_
        rintro e w3 ⟨y, rfl, hY3, hb⟩
        have hM3 := hM2.keep hb
        have hX3 := hX2.keep hb
        have hb3 := hb2.trans (hb.mono hb2.size)
        clear hb hM2 hX2 hb2
        go_wp2_with fail
        refine (mboth_any _ _ a b (by omega) (by omega) hal hbl _ hX3.ss hY3.ss).mono ?_
        rintro e w4 ⟨z, rfl, hZ4, hb⟩
        have hM4 := hM3.keep hb
        have hX4 := hX3.keep hb
        have hY4 := hY3.keep hb
        have hb4 := hb3.trans (hb.mono hb3.size)
        have hz3 := hb3.size
        have HM3 := Lib.hid hM3
        have HX3 := Lib.hid hX3
        have HY3 := Lib.hid hY3
        have hc4 := hb
        clear hb hM3 hX3 hY3
        obtain ⟨q, qc, rfl⟩ := hM4.form
        go_wp2_with fail
        refine (mcheck_any _ l _ hM4.ms).mono ?_
        rintro e w5 ⟨rfl, hb⟩
        have hM5 := hM4.keep hb
        have hX5 := hX4.keep hb
        have hY5 := hY4.keep hb
        have hZ5 := hZ4.keep hb
        have hb5 := hb4.trans (hb.mono hb4.size)
        have hc5 := hc4.trans (hb.mono hc4.size)
        clear hb hM4 hX4 hY4 hZ4 hb4 hc4
        go_wp2_with fail
        refine (rmcheck_any _ l _ (HV.out.keep hb5)).mono ?_
        rintro e w6 ⟨rfl, nn, rfl⟩
        have hb : Below w5.heap.size w5 (w5.drewN nn) := below_drewN (Below.refl _ _) nn
        have hM6 := hM5.keep hb
        have hX6 := hX5.keep hb
        have hY6 := hY5.keep hb
        have hZ6 := hZ5.keep hb
        have hb6 := hb5.trans (hb.mono hb5.size)
        have hc6 := hc5.trans (hb.mono hc5.size)
        clear hb hM5 hX5 hY5 hZ5 hb5 hc5
        generalize setI (chkM l) = g1 at *
        go_wp2_with fail
        refine (mtotal_any _ l _ hM6.ms).mono ?_
        rintro e w7 ⟨rfl, hb⟩
        have hM7 := hM6.keep hb
        have hX7 := hX6.keep hb
        have hY7 := hY6.keep hb
        have hZ7 := hZ6.keep hb
        have hb7 := hb6.trans (hb.mono hb6.size)
        have hc7 := hc6.trans (hb.mono hc6.size)
        clear hb hM6 hX6 hY6 hZ6 hb6 hc6
        go_wp2_with fail
        refine (rtotal_any _ l _ (HV.out.keep hb7)).mono ?_
        rintro e w8 ⟨rfl, hb⟩
        have hM8 := hM7.keep hb
        have hX8 := hX7.keep hb
        have hY8 := hY7.keep hb
        have hZ8 := hZ7.keep hb
        have hb8 := hb7.trans (hb.mono hb7.size)
        have hc8 := hc7.trans (hb.mono hc7.size)
        clear hb hM7 hX7 hY7 hZ7 hb7 hc7
        generalize totM l = g2 at *
        go_wp2_with fail
        refine (mquorum_any _ l _ hM8.ms).mono ?_
        rintro e w9 ⟨rfl, hb⟩
        have hM9 := hM8.keep hb
        have hX9 := hX8.keep hb
        have hY9 := hY8.keep hb
        have hZ9 := hZ8.keep hb
        have hb9 := hb8.trans (hb.mono hb8.size)
        have hc9 := hc8.trans (hb.mono hc8.size)
        clear hb hM8 hX8 hY8 hZ8 hb8 hc8
        go_wp2_with fail
        refine (rquorum_any _ l _ (HV.out.keep hb9)).mono ?_
        rintro e w10 ⟨rfl, hb⟩
        have hM10 := hM9.keep hb
        have hX10 := hX9.keep hb
        have hY10 := hY9.keep hb
        have hZ10 := hZ9.keep hb
        have hb10 := hb9.trans (hb.mono hb9.size)
        have hc10 := hc9.trans (hb.mono hc9.size)
        clear hb hM9 hX9 hY9 hZ9 hb9 hc9
        generalize quoM l = g3 at *
        go_wp2_with fail
        refine (mmost_any _ l _ hM10.ms).mono ?_
        rintro e w11 ⟨rfl, hb⟩
        have hM11 := hM10.keep hb
        have hX11 := hX10.keep hb
        have hY11 := hY10.keep hb
        have hZ11 := hZ10.keep hb
        have hb11 := hb10.trans (hb.mono hb10.size)
        have hc11 := hc10.trans (hb.mono hc10.size)
        clear hb hM10 hX10 hY10 hZ10 hb10 hc10
        go_wp2_with fail
        refine (rmost_any _ l _ (HV.out.keep hb11)).mono ?_
        rintro e w12 ⟨rfl, hb⟩
        have hM12 := hM11.keep hb
        have hX12 := hX11.keep hb
        have hY12 := hY11.keep hb
        have hZ12 := hZ11.keep hb
        have hb12 := hb11.trans (hb.mono hb11.size)
        have hc12 := hc11.trans (hb.mono hc11.size)
        clear hb hM11 hX11 hY11 hZ11 hb11 hc11
        generalize mostM l = g4 at *
        go_wp2_with fail
        refine (mof_any _ _ l a (by omega) hal _ hM12.ms hX12.ss).mono ?_
        rintro e w13 ⟨rfl, hb⟩
        have hM13 := hM12.keep hb
        have hX13 := hX12.keep hb
        have hY13 := hY12.keep hb
        have hZ13 := hZ12.keep hb
        have hb13 := hb12.trans (hb.mono hb12.size)
        have hc13 := hc12.trans (hb.mono hc12.size)
        clear hb hM12 hX12 hY12 hZ12 hb12 hc12
        go_wp2_with fail
        refine (rof_any _ _ l a _ (HV.out.keep hb13) (HA.out.keep hb13)).mono ?_
        rintro e w14 ⟨rfl, hb⟩
        have hM14 := hM13.keep hb
        have hX14 := hX13.keep hb
        have hY14 := hY13.keep hb
        have hZ14 := hZ13.keep hb
        have hb14 := hb13.trans (hb.mono hb13.size)
        have hc14 := hc13.trans (hb.mono hc13.size)
        clear hb hM13 hX13 hY13 hZ13 hb13 hc13
        generalize ofM l a = g5 at *
        go_wp2_with fail
        refine (rboth_any _ _ a b (by omega) _ (HA.out.keep hb14) (HB.out.keep hb14)).mono ?_
        rintro e w15 ⟨t, m, rfl, hT15, hmb, hb⟩
        have hM15 := hM14.keep hb
        have hX15 := hX14.keep hb
        have hY15 := hY14.keep hb
        have hZ15 := hZ14.keep hb
        have hb15 := hb14.trans (hb.mono hb14.size)
        have hc15 := hc14.trans (hb.mono hc14.size)
        clear hb hM14 hX14 hY14 hZ14 hb14 hc14
        rw [isBoth_uniq hmb (bothP_is a b)] at hT15
        have HT := hT15.ss
        clear hT15 hmb
        go_wp2_with fail
        refine (sametexts_self _ _ _ _ hZ15.ss HT).mono ?_
        rintro e w16 ⟨rfl, nn, rfl⟩
        have hb : Below w15.heap.size w15 (w15.drewN nn) := below_drewN (Below.refl _ _) nn
        have hM16 := hM15.keep hb
        have hX16 := hX15.keep hb
        have hY16 := hY15.keep hb
        have hZ16 := hZ15.keep hb
        have hb16 := hb15.trans (hb.mono hb15.size)
        have hc16 := hc15.trans (hb.mono hc15.size)
        clear hb hM15 hX15 hY15 hZ15 hb15 hc15 HT
        go_wp2_with fail
        refine (spoil_any _ _ _ _ hZ16).mono ?_
        rintro e w17 ⟨rfl, hm⟩
        have hb17 := Below.mod hb16 hm hb16.size (fun x hx => by have := hZ16.own x (by simpa using hx); omega)
        have hc17 := Below.mod hc16 hm hc16.size (fun x hx => hZ16.own x (by simpa using hx))
        have hM17 := HM3.out.keep hc17
        have hX17 := HX3.out.keep hc17
        have hY17 := HY3.out.keep hc17
        clear hm hM16 hX16 hY16 hZ16 hb16 hc16
        go_wp2_with fail
        refine (kept_any _ _ _ a _ hX17 (HA.out.keep hb17)).mono ?_
        rintro e w18 ⟨rfl, hb⟩
        have hM18 := hM17.keep hb
        have hY18 := hY17.keep hb
        have hb18 := hb17.trans (hb.mono hb17.size)
        clear hb hM17 hX17 hY17 hb17 hc17
        go_wp2_with fail
        refine (kept_any _ _ _ b _ hY18 (HB.out.keep hb18)).mono ?_
        rintro e w19 ⟨rfl, hb⟩
        have hM19 := hM18.keep hb
        have hb19 := hb18.trans (hb.mono hb18.size)
        clear hb hM18 hY18 hb18
        have hsm := samemembers_any _ _ l l _ hM19.ms (HV.out.keep hb19)
        rw [show decide (l = l) = true from by simp] at hsm
        go_wp2_with fail
        refine hsm.mono ?_
        rintro e w20 ⟨rfl, nn, rfl⟩
        have hb20 := below_drewN hb19 nn
        go_wp2_with fail
        refine (works5_any _ (hk.keep hb20)).mono ?_
        rintro e w21 ⟨rfl, hb⟩
        go_wp2_with fail
        all_goals (go_ret; exact ⟨rfl, hb20.trans (hb.mono hb20.size)⟩)
end Go.Proofs.YtmldonbmjgelnaaDoor
