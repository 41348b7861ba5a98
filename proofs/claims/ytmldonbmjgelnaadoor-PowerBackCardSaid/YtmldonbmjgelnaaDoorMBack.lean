/- Walk of the statement PowerBack. -/
import Derived.Test.YtmldonbmjgelnaaDoorMWorks
import Derived.Test.YtmldonbmjgelnaaDoorMBackP
import Derived.Test.YtmldonbmjgelnaaDoorSame
set_option linter.unusedSimpArgs false
set_option linter.unusedVariables false
namespace Go.Proofs.YtmldonbmjgelnaaDoor
open Go.RowKit Pl

set_option maxRecDepth 100000 in
set_option maxHeartbeats 1000000 in
theorem mback_any (v : Value) (l : List (Bs × Int)) (s : Bs) (w : World) (hv : MS w v l) (hk : KT w) :
    Calls Tryd.prog 7 #[v, .string ⟨List.toArray (s)⟩] w fun e w' => e = .returned (.bool true) ∧ Below w.heap.size w w' := by
  obtain ⟨a, c, rfl⟩ := hv.form
  have HV := Lib.hid hv
  clear hv
  go_enter Tryd.func7, Tryd.ntmps7
  go_wp2_with fail
  refine (works5_any _ hk).mono ?_
  rintro e w1 ⟨rfl, hb1⟩
  by_cases h1 : 1000 < l.length
  · have hd : decide ((1000 : Int) < (l.length : Int)) = true := by simp; omega
    go_wp2_with fail
    all_goals (go_ret; exact ⟨rfl, hb1⟩)
  · have hd : decide ((1000 : Int) < (l.length : Int)) = false := by simp; omega
    by_cases h2 : 1000 < s.length
    · have hd2 : decide ((1000 : Int) < (s.length : Int)) = true := by simp; omega
      go_wp2_with fail
      all_goals (go_ret; exact ⟨rfl, hb1⟩)
    · have hd2 : decide ((1000 : Int) < (s.length : Int)) = false := by simp; omega
      go_wp2_with fail
      refine (mdecode_any s (by omega) _).mono ?_
      rintro e w2 ⟨v2, rfl, R2, hb⟩
      have hb2 := hb1.trans (hb.mono hb1.size)
      clear hb hb1
      rcases decM_two s with ⟨m, hd0, hcm, hem⟩ | hd0
      focus
        rw [hd0] at R2 ⊢
        have hen := mencode_any _ m _ R2.ms
        rw [show encMR m = (s, 0) from by simp [encMR, hcm, hem]] at hen
        have HE := Lib.hid hen
        have HR := Lib.hid R2
        have HCM := Lib.hid hcm
        clear hen hd0 hem R2 hcm
        go_wp2_with fail
        refine HE.out.mono ?_
        rintro e w3 ⟨rfl, hb⟩
        have R3 := HR.out.keep hb
        have hb3 := hb2.trans (hb.mono hb2.size)
        clear hb HE HR hb2
        go_wp2_with fail
        refine (mcheck_any _ m _ R3.ms).mono ?_
        rintro e w4 ⟨rfl, hb⟩
        have hb6 := hb3.trans (hb.mono hb3.size)
        rw [HCM.out]
        unfold setI
        clear hb R3 hb3 HCM
        go_wp2_with fail
      rotate_left
      focus
        rw [hd0] at R2 ⊢
        obtain ⟨va, vc, rfl⟩ := R2.form
        have hb6 := hb2
        clear R2 hd0 hb2
        go_wp2_with fail
      all_goals
        have V6 := HV.out.keep hb6
        refine (mencode_any _ l _ V6).mono ?_
        rintro e w7 ⟨rfl, hb⟩
        have V7 := V6.keep hb
        have hb7 := hb6.trans (hb.mono hb6.size)
        clear V6 hb6 hb
        cases hc : chkM l
        · rw [show encMR l = ([], 50) from by simp [encMR, hc]]
          have hdg : dgM l = [] := by simp [dgM, hc]
          have hto : totM l = 0 := by simp [totM, hc]
          go_wp2_with fail
          refine (mdigest_any _ l _ V7 (hk.keep hb7)).mono ?_
          rintro e w8 ⟨rfl, hb⟩
          have V8 := V7.keep hb
          have hb8 := hb7.trans (hb.mono hb7.size)
          clear V7 hb7 hb
          rw [hdg]
          go_wp2_with fail
          refine (mcheck_any _ l _ V8).mono ?_
          rintro e w9 ⟨rfl, hb⟩
          have V9 := V8.keep hb
          have hb9 := hb8.trans (hb.mono hb8.size)
          clear V8 hb8 hb
          rw [hc]
          unfold setI
          go_wp2_with fail
          refine (mtotal_any _ l _ V9).mono ?_
          rintro e w10 ⟨rfl, hb⟩
          have hb10 := hb9.trans (hb.mono hb9.size)
          rw [hto]
          go_wp2_with fail
          all_goals (go_ret; exact ⟨rfl, hb10⟩)
        · rw [show encMR l = (encM l, 0) from by simp [encMR, hc]]
          have hdl : (dgM l).length = 32 := by rw [dgM, if_pos hc]; exact tagP_len _ _
          have hde := decM_enc l hc
          have hle := encM_len l hc
          generalize encM l = t at *
          clear hc
          go_wp2_with fail
          refine (mdecode_any t (by omega) _).mono ?_
          rintro e w8 ⟨v8, rfl, R8, hb⟩
          rw [hde] at R8 ⊢
          have V8 := V7.keep hb
          have hb8 := hb7.trans (hb.mono hb7.size)
          clear V7 hb7 hb hde
          go_wp2_with fail
          refine (samemembers_any _ _ _ _ _ V8 R8.ms).mono ?_
          rintro e w9 ⟨rfl, q, rfl⟩
          have V9 := V8.drewN q
          have hb9 := below_drewN hb8 q
          rw [show decide (l = l) = true from by simp]
          go_wp2_with fail
          refine (mdigest_any _ l _ V9 (hk.keep hb9)).mono ?_
          rintro e w10 ⟨rfl, hb⟩
          have hb10 := hb9.trans (hb.mono hb9.size)
          generalize dgM l = d at *
          have hdi : (d.length : Int) = 32 := by omega
          go_wp2_with fail
          all_goals (go_ret; exact ⟨rfl, hb10⟩)

end Go.Proofs.YtmldonbmjgelnaaDoor
