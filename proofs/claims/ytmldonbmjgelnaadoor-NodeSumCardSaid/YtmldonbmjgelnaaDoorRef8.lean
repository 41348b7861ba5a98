/- Walks of the document's answer for layer 8. -/
import Derived.Test.YtmldonbmjgelnaaDoorDec
import Derived.Test.YtmldonbmjgelnaaDoorRef1
import Derived.Test.YtmldonbmjgelnaaDoorRef2
set_option linter.unusedSimpArgs false
set_option linter.unusedVariables false
namespace Go.Proofs.YtmldonbmjgelnaaDoor
open Go.RowKit Pl

set_option maxRecDepth 100000 in
set_option maxHeartbeats 1000000 in
theorem rkids_any (kind : Int) (path val : Bs) (kid : Nat → Bs) (w : World) :
    Calls Tryd.prog 23 #[.agg (nd kind path val kid).toArray] w fun e w' => ∃ (x : Option Addr) (cap : Nat), e = .returned (.slice x (kidsF kid).length cap) ∧ SRow w' (w.heap.size + 1) (.slice x (kidsF kid).length cap) (kidsF kid) ∧ Below w.heap.size w w' := by
  have hB0 := Blk.new w (nd kind path val kid).toArray 24
  have hb0 : Below w.heap.size w (w.alloc (.cells (nd kind path val kid).toArray 24)) := Below.allocS (Below.refl _ _) _
  have hs0 : (w.alloc (.cells (nd kind path val kid).toArray 24)).heap.size = w.heap.size + 1 := by simp
  go_enter Tryd.func23, Tryd.ntmps23
  go_wp2_with fail
  generalize w.alloc (.cells (nd kind path val kid).toArray 24) = W0 at *
  go_loopw [3, 4] (fun s3 s4 wr => ∃ k : Nat, k ≤ 16 ∧ s4 = .int .i64 k ∧ SRow wr (w.heap.size + 1) s3 (kidsTo kid k) ∧ Below W0.heap.size W0 wr) (fun _ s4 _ => 16 - (intOf s4).toNat)
  case atStart => exact ⟨0, by omega, rfl, SRow.nil _ _, Below.refl _ _⟩
  case round =>
    obtain ⟨k, hk, rfl, hS, hb⟩ := hrel
    rename_i wr
    have hB := hB0.keep hb
    have hbz := hB.lt
    by_cases hlt : k < 16
    · have hki := blk_kid hB k hlt
      have hfr := hB.froz
      have hlt' : (k : Int) < 16 := by omega
      have hkl := kidsTo_len kid k
      have HKS := Lib.hid (kidsTo_succ kid k)
      by_cases he : kid k = []
      · have HK : Hid (kidsTo kid (k + 1) = kidsTo kid k) := Lib.hid (by rw [HKS.out, if_pos he]; simp)
        rw [he] at hki
        clear he
        go_wp2_with fail
        exact ⟨⟨k + 1, by omega, by go_num, by rw [HK.out]; exact hS, hb⟩, by simp [intOf]; omega⟩
      · have HK : Hid (kidsTo kid (k + 1) = kidsTo kid k ++ [kid k]) := Lib.hid (by rw [HKS.out, if_neg he])
        have he1 : (kid k).isEmpty = false := by simpa using he
        generalize hx : kid k = x at *
        clear he
        go_wp2_with (at_builtin; refine wpList_appS rfl (.tmp 14) (.tmp 19) rfl (w.heap.size + 1) _ (kidsTo kid k) rfl (hS.alloc _) wr.heap.size 0 1 1 [x] rfl rfl (ssrc1 _ _ _) (by omega) (by have := hb.size; simp; omega) ?_; rintro v' w2 hS2 hb2)
        exact ⟨⟨k + 1, by omega, by go_num, by rw [HK.out]; exact hS2, (Below.allocS hb _).trans (by rw [hs0]; exact hb2)⟩, by simp [intOf]; omega⟩
    · have hke : k = 16 := by omega
      subst hke
      go_wp2_with fail
      go_ret
      obtain ⟨x, cap, hv⟩ := hS.form
      rw [hv] at hS
      exact ⟨x, cap, congrArg Ending.returned hv, hS, hb0.trans (hb.mono (by omega))⟩

set_option maxRecDepth 100000 in
set_option maxHeartbeats 1000000 in
theorem rfine_any (kind : Int) (path val : Bs) (kid : Nat → Bs) (hp : path.length ≤ 9223372036854775807) (w : World) :
    Calls Tryd.prog 66 #[.agg (nd kind path val kid).toArray] w fun e w' => e = .returned (.bool (fineR kind path val kid)) ∧ Below w.heap.size w w' := by
  generalize hr : fineR kind path val kid = r
  unfold fineR at hr
  have HR := Lib.hid hr
  clear hr
  have hB0 := Blk.new w (nd kind path val kid).toArray 24
  go_enter Tryd.func66, Tryd.ntmps66
  go_wp2_with (refine wpList_node rfl (.tmp 1) rfl rfl hB0 ?_)
  refine (rkids_any kind path val kid _).mono ?_
  rintro e w1 ⟨va, vc, rfl, hS, hb⟩
  have hB : Blk w1 w.heap.size (nd kind path val kid).toArray := hB0.keep hb
  have hb0 : Below w.heap.size w w1 := (Below.allocS (Below.refl _ _) _).trans (hb.mono (by simp))
  clear hb hB0
  have hkl := kidsTo_len kid 16
  have hkl' : (kidsF kid).length ≤ 16 := hkl
  clear hkl
  obtain ⟨b1, b2, b3⟩ := id hB
  generalize hks : kidsF kid = ks at *
  go_wp2_with fail
  go_loop [4] (fun s4 => ∃ i : Nat, i ≤ ks.length ∧ s4 = .int .i64 i ∧ Hid (∀ j, j < i → (ks.getD j []).length = 32)) (fun s4 => ks.length - (intOf s4).toNat)
  case atStart => exact ⟨0, by omega, rfl, Lib.hid (fun j hj => by omega)⟩
  case round =>
    obtain ⟨i, hi, rfl, HA⟩ := hrel
    by_cases hlt : i < ks.length
    · rcases hS.cells with ⟨hx, hx2⟩ | ⟨g, cap, hx, hgb, hgl, hn, hm, hcl, hf⟩
      · rw [hx2] at hlt; cases hlt
      obtain ⟨rfl, rfl⟩ : va = some ⟨g, 0, none⟩ ∧ vc = cap := by
        injection hx with h1 h2 h3
        exact ⟨h1, h3⟩
      have hci := hcl i hlt
      clear hcl hx
      by_cases h32 : (ks.getD i []).length = 32
      · have HN : Hid (∀ j, j < i + 1 → (ks.getD j []).length = 32) := Lib.hid (fun j hj => by
          rcases Nat.lt_or_ge j i with h | h
          · exact HA.out j h
          · have : j = i := by omega
            subst this; exact h32)
        generalize ks.getD i [] = x at hci h32
        have hbb : ((x.length : Int) != 32) = false := by simp; omega
        clear h32
        go_wp2_with fail
        exact ⟨⟨i + 1, by omega, by go_num, HN⟩, by simp [intOf]; omega⟩
      · have HN : Hid (r = false) := Lib.hid (by rw [← HR.out, if_pos (all32_not ks i hlt h32)])
        generalize ks.getD i [] = x at hci h32
        have hbb : ((x.length : Int) != 32) = true := by simp; omega
        clear h32
        go_wp2_with fail
        go_ret
        exact ⟨by rw [HN.out]; rfl, hb0⟩
    · have hall : all32 ks = true := by
        unfold all32
        rw [List.all_eq_true]
        intro s hs
        obtain ⟨j, hj, rfl⟩ := List.getElem_of_mem hs
        have := HA.out j (by omega)
        simpa [List.getD, List.getElem?_eq_getElem hj] using this
      have hr1 := HR.out
      rw [if_neg (by simp [hall])] at hr1
      have HR1 := Lib.hid hr1
      clear hr1 HR HA hall hS
      have hie : i = ks.length := by omega
      subst hie
      go_wp2_with fail
      refine (rfit_any path hp _).mono ?_
      rintro e w2 ⟨rfl, rfl⟩
      cases hf : fit path
      · have HN : Hid (r = false) := Lib.hid (by rw [← HR1.out, if_pos (.inl hf)])
        go_wp2_with fail
        all_goals (go_ret; exact ⟨by rw [HN.out]; rfl, hb0⟩)
      · by_cases h16 : 16 < path.length
        · have HN : Hid (r = false) := Lib.hid (by rw [← HR1.out, if_pos (.inr (.inl h16))])
          have hd : decide ((16 : Int) < (path.length : Int)) = true := by simp; omega
          go_wp2_with fail
          all_goals (go_ret; exact ⟨by rw [HN.out]; rfl, hb0⟩)
        · have hd : decide ((16 : Int) < (path.length : Int)) = false := by simp; omega
          by_cases h32 : 32 < val.length
          · have HN : Hid (r = false) := Lib.hid (by rw [← HR1.out, if_pos (.inr (.inr h32))])
            have hd2 : decide ((32 : Int) < (val.length : Int)) = true := by simp; omega
            go_wp2_with fail
            all_goals (go_ret; exact ⟨by rw [HN.out]; rfl, hb0⟩)
          · have hd2 : decide ((32 : Int) < (val.length : Int)) = false := by simp; omega
            have hr2 := HR1.out
            rw [if_neg (by simp [hf, h16, h32])] at hr2
            have HR2 := Lib.hid hr2
            clear hr2 HR1 hf
            by_cases k1 : kind = 1
            · have HN : Hid (r = (decide (ks.length = 0) && !val.isEmpty)) := Lib.hid (by rw [← HR2.out, if_pos k1])
              subst k1
              by_cases hl : ks.length = 0
              · have hl1 : ((ks.length : Int) == 0) = true := by rw [hl]; rfl
                go_wp2_with fail
                all_goals (go_ret; exact ⟨by rw [HN.out]; simp [hl], hb0⟩)
              · have hl1 : ((ks.length : Int) == 0) = false := by rw [beq_eq_false_iff_ne]; omega
                go_wp2_with fail
                all_goals (go_ret; exact ⟨by rw [HN.out]; simp [hl], hb0⟩)
            · by_cases k2 : kind = 2
              · have HN : Hid (r = (decide (ks.length = 1) && !(kid 0).isEmpty && decide (1 ≤ path.length) && val.isEmpty)) := Lib.hid (by rw [← HR2.out, if_neg k1, if_pos k2])
                subst k2
                clear HR2 k1 h16 h32
                by_cases hl : ks.length = 1
                · have hl1 : ((ks.length : Int) == 1) = true := by rw [hl]; rfl
                  cases h0 : (kid 0).isEmpty
                  · have h0' : ¬ kid 0 = [] := by simpa using h0
                    by_cases hp1 : 1 ≤ path.length
                    · have hp1' : decide ((1 : Int) ≤ (path.length : Int)) = true := by simp; omega
                      cases hv : val.isEmpty
                      · have hv' : ¬ val = [] := by simpa using hv
                        go_wp2_with fail
                        all_goals (go_ret; exact ⟨ret_bool (by rw [HN.out]; simp [*]), hb0⟩)
                      · have hv' : val = [] := by simpa using hv
                        subst hv'
                        go_wp2_with fail
                        all_goals (go_ret; exact ⟨ret_bool (by rw [HN.out]; simp [*]), hb0⟩)
                    · have hp1' : decide ((1 : Int) ≤ (path.length : Int)) = false := by simp; omega
                      go_wp2_with fail
                      all_goals (go_ret; exact ⟨ret_bool (by rw [HN.out]; simp [*]), hb0⟩)
                  · have h0' : kid 0 = [] := by simpa using h0
                    go_wp2_with fail
                    all_goals (go_ret; exact ⟨ret_bool (by rw [HN.out]; simp [*]), hb0⟩)
                · have hl1 : ((ks.length : Int) == 1) = false := by rw [beq_eq_false_iff_ne]; omega
                  go_wp2_with fail
                  all_goals (go_ret; exact ⟨ret_bool (by rw [HN.out]; simp [*]), hb0⟩)
              · by_cases k3 : kind = 3
                · have HN : Hid (r = (decide (path.length = 0) && (decide (2 ≤ ks.length) || decide (ks.length = 1) && !val.isEmpty))) := Lib.hid (by rw [← HR2.out, if_neg k1, if_neg k2, if_pos k3])
                  subst k3
                  clear HR2 k1 k2 h16 h32
                  by_cases hp0 : path.length = 0
                  · have hp0' : ((path.length : Int) == 0) = true := by rw [hp0]; rfl
                    by_cases hl : 2 ≤ ks.length
                    · have hl1 : decide ((2 : Int) ≤ (ks.length : Int)) = true := by simp; omega
                      go_wp2_with fail
                      all_goals (go_ret; exact ⟨ret_bool (by rw [HN.out]; simp [*]), hb0⟩)
                    · have hl1 : decide ((2 : Int) ≤ (ks.length : Int)) = false := by simp; omega
                      by_cases hl2 : ks.length = 1
                      · have hl3 : ((ks.length : Int) == 1) = true := by rw [hl2]; rfl
                        cases hv : val.isEmpty
                        · have hv' : ¬ val = [] := by simpa using hv
                          go_wp2_with fail
                          all_goals (go_ret; exact ⟨ret_bool (by rw [HN.out]; simp [*]), hb0⟩)
                        · have hv' : val = [] := by simpa using hv
                          subst hv'
                          go_wp2_with fail
                          all_goals (go_ret; exact ⟨ret_bool (by rw [HN.out]; simp [*]), hb0⟩)
                      · have hl3 : ((ks.length : Int) == 1) = false := by rw [beq_eq_false_iff_ne]; omega
                        go_wp2_with fail
                        all_goals (go_ret; exact ⟨ret_bool (by rw [HN.out]; simp [*]), hb0⟩)
                  · have hp0' : ((path.length : Int) == 0) = false := by rw [beq_eq_false_iff_ne]; omega
                    go_wp2_with fail
                    all_goals (go_ret; exact ⟨ret_bool (by rw [HN.out]; simp [*]), hb0⟩)
                · have HN : Hid (r = false) := Lib.hid (by rw [← HR2.out, if_neg k1, if_neg k2, if_neg k3])
                  have k1b : (kind == 1) = false := by simpa using k1
                  have k2b : (kind == 2) = false := by simpa using k2
                  have k3b : (kind == 3) = false := by simpa using k3
                  clear HR2 k1 k2 k3
                  go_wp2_with fail
                  all_goals (go_ret; exact ⟨ret_bool (by rw [HN.out]), hb0⟩)

end Go.Proofs.YtmldonbmjgelnaaDoor
