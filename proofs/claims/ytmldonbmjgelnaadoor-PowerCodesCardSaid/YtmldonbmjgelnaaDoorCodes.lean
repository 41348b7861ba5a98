/- Walk of the statement PowerCodes. -/
import Derived.Test.YtmldonbmjgelnaaDoorMWorks
import Derived.Test.YtmldonbmjgelnaaDoorMRdec
import Derived.Test.YtmldonbmjgelnaaDoorSame
set_option linter.unusedSimpArgs false
set_option linter.unusedVariables false
namespace Go.Proofs.YtmldonbmjgelnaaDoor
open Go.RowKit Pl

set_option maxRecDepth 100000 in
set_option maxHeartbeats 1000000 in
theorem codes_any (v : Value) (l : List (Bs × Int)) (s : Bs) (w : World) (hv : MS w v l) (hk : KT w) :
    Calls Tryd.prog 6 #[v, .string ⟨List.toArray (s)⟩] w fun e w' => e = .returned (.bool true) ∧ Below w.heap.size w w' := by
  obtain ⟨a, c, rfl⟩ := hv.form
  by_cases h1 : 1000 < l.length
  · have hd : decide ((1000 : Int) < (l.length : Int)) = true := by simp; omega
    go_enter Tryd.func6, Tryd.ntmps6
    go_wp2_with fail
    refine (works5_any _ hk).mono ?_
    rintro e w1 ⟨rfl, hb⟩
    go_wp2_with fail
    all_goals (go_ret; exact ⟨rfl, hb⟩)
  · have hd : decide ((1000 : Int) < (l.length : Int)) = false := by simp; omega
    by_cases h2 : 1000 < s.length
    · have hd2 : decide ((1000 : Int) < (s.length : Int)) = true := by simp; omega
      go_enter Tryd.func6, Tryd.ntmps6
      go_wp2_with fail
      refine (works5_any _ hk).mono ?_
      rintro e w1 ⟨rfl, hb⟩
      go_wp2_with fail
      all_goals (go_ret; exact ⟨rfl, hb⟩)
    · have hd2 : decide ((1000 : Int) < (s.length : Int)) = false := by simp; omega
      go_enter Tryd.func6, Tryd.ntmps6
      go_wp2_with fail
      refine (mencode_any _ l _ hv).mono ?_
      rintro e w1 ⟨rfl, hb1⟩
      have V1 := hv.keep hb1
      go_wp2_with fail
      refine (rmencode_any _ l _ V1).mono ?_
      rintro e w2 ⟨rfl, hb⟩
      have V2 := V1.keep hb
      have hb2 := hb1.trans (hb.mono hb1.size)
      go_wp2_with fail
      refine (mdecode_any s (by omega) _).mono ?_
      rintro e w3 ⟨v3, rfl, R3, hb⟩
      have V3 := V2.keep hb
      have hb3 := hb2.trans (hb.mono hb2.size)
      have h23 := hb2.size
      go_wp2_with fail
      refine (rmdecode_any s (by omega) _).mono ?_
      rintro e w4 ⟨v4, rfl, R4, hb⟩
      have V4 := V3.keep hb
      have R34 := R3.keep hb
      have hb4 := hb3.trans (hb.mono hb3.size)
      go_wp2_with fail
      refine (samemembers_any _ _ _ _ _ R34.ms R4.ms).mono ?_
      rintro e w5 ⟨rfl, q, rfl⟩
      rw [show decide ((decM s).1 = (decM s).1) = true from by simp]
      go_wp2_with fail
      have h34 := hb3.size
      have hb5 := below_drewN hb4 q
      have R5 : MRow (w4.drewN q) w2.heap.size v3 (decM s).1 := R34.drewN q
      refine (spoilm_any _ v3 _ _ R5).mono ?_
      rintro e w6 ⟨rfl, hm⟩
      have hb6 := Below.mod hb5 hm hb5.size (fun x hx => by have := R5.own x (by simpa using hx); omega)
      have V6 := hv.keep hb6
      have hk6 := hk.keep hb6
      go_wp2_with fail
      refine (mdigest_any _ l _ V6 hk6).mono ?_
      rintro e w7 ⟨rfl, hb⟩
      have V7 := V6.keep hb
      have hb7 := hb6.trans (hb.mono hb6.size)
      have hk7 := hk.keep hb7
      go_wp2_with fail
      refine (rmdigest_any _ l _ V7).mono ?_
      rintro e w8 ⟨rfl, hb⟩
      have hb8 := hb7.trans (hb.mono hb7.size)
      go_wp2_with fail
      refine (works5_any _ (hk.keep hb8)).mono ?_
      rintro e w9 ⟨rfl, hb⟩
      have hb9 := hb8.trans (hb.mono hb8.size)
      go_wp2_with fail
      all_goals (go_ret; exact ⟨rfl, hb9⟩)

end Go.Proofs.YtmldonbmjgelnaaDoor
