/- Walk of the statement NodeSum. -/
import Derived.Test.YtmldonbmjgelnaaDoorNodeW
import Derived.Test.YtmldonbmjgelnaaDoorWorks8
import Derived.Test.YtmldonbmjgelnaaDoorSumP
set_option linter.unusedSimpArgs false
set_option linter.unusedVariables false
namespace Go.Proofs.YtmldonbmjgelnaaDoor
open Go.RowKit Pl

set_option maxRecDepth 100000 in
set_option maxHeartbeats 4000000 in
theorem nodesum_any (k : Int) (p v : Bs) (kid : Nat → Bs) (w : World) (hkt : KT w) :
    Calls Tryd.prog 5 #[.agg (nd k p v kid).toArray] w fun e w' => e = .returned (.bool true) ∧ Below w.heap.size w w' := by
  have hN0 := Blk.new w (nd k p v kid).toArray 24
  have hb0 : Below w.heap.size w (w.alloc (.cells (nd k p v kid).toArray 24)) := Below.allocS (Below.refl _ _) _
  go_enter Tryd.func5, Tryd.ntmps5
  go_wp2_with fail
  refine (works8_any _).mono ?_
  rintro e w1 ⟨rfl, hb⟩
  have N1 := hN0.keep hb
  have hb1 := hb0.trans (hb.mono hb0.size)
  clear hN0 hb0 hb
  go_wp2_with (refine wpList_node rfl (.tmp 1) rfl rfl N1 ?_)
  refine (big_any k p v kid _).mono ?_
  rintro e w2 ⟨rfl, hb⟩
  have N2 := N1.keep hb
  have hb2 := hb1.trans (hb.mono hb1.size)
  clear N1 hb1 hb
  cases hB1 : bigB p v kid
  · have hp := (big_no hB1).1
    clear hB1
    have hchk := check_any k p v kid (by omega)
    cases hc : chk k p v kid
    · rw [show chkI (chk k p v kid) = 80 from by simp [chkI, hc]] at hchk
      have HC := Lib.hid hchk
      clear hchk hc
      go_wp2_with (refine wpList_nodeG ?hw (.tmp 1) rfl rfl N2 ?_; (case hw => rfl))
      refine (HC.out _).mono ?_
      rintro e w3 ⟨rfl, hb⟩
      have hb3 := hb2.trans (hb.mono hb2.size)
      go_wp2_with fail
      all_goals (go_ret; exact ⟨rfl, hb3⟩)
    · rw [show chkI (chk k p v kid) = 0 from by simp [chkI, hc]] at hchk
      have henc := encode_any k p v kid (by omega)
      rw [show encR k p v kid = (enc k p v kid, 0) from by simp [encR, hc]] at henc
      have hdig := ndigest_any k p v kid (by omega)
      rw [show dgP k p v kid = tagP 1 (enc k p v kid) from by simp [dgP, hc]] at hdig
      have hsum := digsum_ok 1 (by omega) (by omega) (enc k p v kid) (by have := enc_small k p v kid hc; omega)
      have hdl := tagP_len 1 (enc k p v kid)
      have hlen := enc_small k p v kid hc
      obtain ⟨hk32, hcase⟩ := sums_in k p v kid hc
      have HC := Lib.hid hchk
      have HE := Lib.hid henc
      have HG := Lib.hid hdig
      have HSm := Lib.hid hsum
      have HK := Lib.hid hk32
      have HQ := Lib.hid hcase
      clear hchk henc hdig hsum hk32 hcase hc
      generalize enc k p v kid = t at *
      generalize tagP 1 t = d at *
      go_wp2_with (refine wpList_nodeG ?hw (.tmp 1) rfl rfl N2 ?_; (case hw => rfl))
      refine (HC.out _).mono ?_
      rintro e w3 ⟨rfl, hb⟩
      have N3 := N2.keep hb
      have hb3 := hb2.trans (hb.mono hb2.size)
      clear hb2 N2 hb HC
      go_wp2_with (refine wpList_node rfl (.tmp 1) rfl rfl N3 ?_)
      refine (HE.out _).mono ?_
      rintro e w4 ⟨rfl, hb⟩
      have N4 := N3.keep hb
      have hb4 := hb3.trans (hb.mono hb3.size)
      clear hb3 N3 hb HE
      go_wp2_with fail
      refine (HSm.out _ (hkt.keep hb4)).mono ?_
      rintro e w5 ⟨rfl, hb⟩
      have N5 := N4.keep hb
      have hb5 := hb4.trans (hb.mono hb4.size)
      clear hb4 N4 hb HSm
      go_wp2_with (refine wpList_nodeG ?hw (.tmp 1) rfl rfl N5 ?_; (case hw => rfl))
      refine (HG.out _ (hkt.keep hb5)).mono ?_
      rintro e w6 ⟨rfl, hb⟩
      have N6 := N5.keep hb
      have hb6 := hb5.trans (hb.mono hb5.size)
      clear hb5 N5 hb HG
      have hdi : (d.length : Int) = 32 := by omega
      go_wp2_with (refine wpList_node rfl (.tmp 1) rfl rfl N6 ?_)
      refine (kids_any k p v kid _).mono ?_
      rintro e w7 ⟨x, cap, rfl, hSK, hb⟩
      have N7 := N6.keep hb
      have hb7 := hb6.trans (hb.mono hb6.size)
      clear hb6 N6 hb
      have c0 : w7.cell? ⟨w.heap.size, 0, none⟩ = some (.int .i64 (k)) := N7.cell 0
      clear N7
      have hcl : (kidsF kid).length ≤ 16 := kidsTo_len kid 16
      have hcell : ∀ i, i < (kidsF kid).length → ∃ g, x = some ⟨g, 0, none⟩ ∧ w7.cell? ⟨g, i, none⟩ = some (.string ⟨List.toArray ((kidsF kid).getD i [])⟩) := by
        intro i hi
        rcases hSK.cells with ⟨h1, h2⟩ | ⟨g, cap', h1, h2, h3, h4, h5, h6, h7⟩
        · rw [h2] at hi; simp at hi
        · simp only [Value.slice.injEq] at h1
          exact ⟨g, h1.1, h6 i hi⟩
      have HX := Lib.hid hcell
      clear hcell hSK
      generalize kidsF kid = l at *
      by_cases h3 : k = 3
      · subst h3
        have h3a : 3 + 32 * l.length ≤ t.length ∧ ∀ i, i < l.length → (t.drop (3 + 32 * i)).take 32 = l.getD i [] := by
          rcases HQ.out with ⟨_, h1, h2⟩ | ⟨h1, _⟩
          · exact ⟨h1, h2⟩
          · exact absurd rfl h1
        obtain ⟨hl1, hl2⟩ := h3a
        have HL := Lib.hid hl2
        clear hl2 HQ
        go_wp2_with fail
        go_loop [8, 47] (fun s8 s47 => ∃ i : Nat, i ≤ l.length ∧ s47 = .int .i64 i ∧ s8 = .int .i64 ((3 + 32 * i : Nat) : Int)) (fun _ s47 => l.length - (intOf s47).toNat)
        case atStart => exact ⟨0, by omega, rfl, rfl⟩
        case round =>
          obtain ⟨i, hi, rfl, rfl⟩ := hrel
          by_cases hlt : i < l.length
          · obtain ⟨g, rfl, hci⟩ := HX.out i hlt
            have hk32 := HK.out i hlt
            have hsl := HL.out i hlt
            generalize l.getD i [] = y at hci hk32 hsl
            have hyb : ((y.length : Int) != 32) = false := by simp; omega
            have q1 : IntKind.i64.wrap (((3 + 32 * i : Nat) : Int) + 32) = ((3 + 32 * (i + 1) : Nat) : Int) := by rw [show ((3 + 32 * i : Nat) : Int) + 32 = ((3 + 32 * (i + 1) : Nat) : Int) from by omega]; exact IntWalk.i64_in _ (by omega)
            have q2 : decide ((t.length : Int) < ((3 + 32 * (i + 1) : Nat) : Int)) = false := by simp; omega
            have q3 : List.take (3 + 32 * (i + 1) - (3 + 32 * i)) (List.drop (3 + 32 * i) t) = y := by
              rw [← hsl, show 3 + 32 * (i + 1) - (3 + 32 * i) = 32 from by omega]
            have q6 : ¬ t.length < 3 + 32 * (i + 1) := by omega
            generalize ha : 3 + 32 * i = a at *
            generalize hb2 : 3 + 32 * (i + 1) = b at *
            have q4 : a ≤ b := by omega
            have q5 : b ≤ t.length := by omega
            clear hsl
            go_wp2_with fail
            exact ⟨⟨i + 1, by omega, by go_num, by rw [hb2]⟩, by simp [intOf]; omega⟩
          · obtain rfl : i = l.length := by omega
            go_wp2_with fail
            all_goals (go_ret; exact ⟨rfl, hb7⟩)
      · have h3a : (l.length : Int) = k - 1 ∧ (0 < l.length → 32 ≤ t.length) ∧ ∀ i, i < l.length → t.drop (t.length - 32) = l.getD i [] := by
          rcases HQ.out with ⟨h1, _⟩ | ⟨_, h1⟩
          · exact absurd h1 h3
          · exact h1
        obtain ⟨hl0, hl1, hl2⟩ := h3a
        have HL := Lib.hid hl2
        clear hl2 HQ
        have hk3 : (k == 3) = false := by simpa using h3
        have hkl : IntKind.i64.wrap (k - 1) = (l.length : Int) := by rw [← hl0]; exact IntWalk.i64_in _ (by omega)
        go_wp2_with fail
        go_loop [8, 47] (fun s8 s47 => ∃ i : Nat, i ≤ l.length ∧ s47 = .int .i64 i ∧ s8 = .int .i64 3) (fun _ s47 => l.length - (intOf s47).toNat)
        case atStart => exact ⟨0, by omega, rfl, rfl⟩
        case round =>
          obtain ⟨i, hi, rfl, rfl⟩ := hrel
          by_cases hlt : i < l.length
          · obtain ⟨g, rfl, hci⟩ := HX.out i hlt
            have hk32 := HK.out i hlt
            have hsl := HL.out i hlt
            have ht32 := hl1 (by omega)
            generalize l.getD i [] = y at hci hk32 hsl
            have hyb : ((y.length : Int) != 32) = false := by simp; omega
            have q1 : IntKind.i64.wrap ((t.length : Int) - 32) = ((t.length - 32 : Nat) : Int) := by rw [show (t.length : Int) - 32 = ((t.length - 32 : Nat) : Int) from by omega]; exact IntWalk.i64_in _ (by omega)
            have q4 : t.length - 32 ≤ t.length := by omega
            have q5 : List.take (t.length - (t.length - 32)) y = y := List.take_of_length_le (by omega)
            go_wp2_with fail
            exact ⟨⟨i + 1, by omega, by go_num, rfl⟩, by simp [intOf]; omega⟩
          · obtain rfl : i = l.length := by omega
            go_wp2_with fail
            all_goals (go_ret; exact ⟨rfl, hb7⟩)
  · go_wp2_with fail
    all_goals (go_ret; exact ⟨rfl, hb2⟩)

end Go.Proofs.YtmldonbmjgelnaaDoor
