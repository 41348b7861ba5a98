/- Walk of the statement NodeUnlike. -/
import Derived.Test.YtphlcpnijekbaaaWorks8
import Derived.Test.YtphlcpnijekbaaaEqNode
import Derived.Test.YtphlcpnijekbaaaBack
set_option linter.unusedSimpArgs false
set_option linter.unusedVariables false
namespace Go.Proofs.Ytphlcpnijekbaaa
open Go.RowKit Pl

theorem eqNd_iff (k : Int) (p v : Bs) (kid : Nat → Bs) (k2 : Int) (p2 v2 : Bs) (kid2 : Nat → Bs) : eqNd k p v kid k2 p2 v2 kid2 = true ↔ sameN k p v kid k2 p2 v2 kid2 := by
  unfold eqNd sameN sameL
  simp only [Bool.and_eq_true, decide_eq_true_eq]
  constructor
  · rintro ⟨⟨⟨h1, h2⟩, h3⟩, h4⟩
    exact ⟨h1, h2, h3, kidL_eq h4⟩
  · rintro ⟨h1, h2, h3, h4⟩
    exact ⟨⟨⟨h1, h2⟩, h3⟩, kidL_of h4⟩

set_option maxRecDepth 100000 in
set_option maxHeartbeats 2000000 in
theorem unlike_any (k : Int) (p v : Bs) (kid : Nat → Bs) (k2 : Int) (p2 v2 : Bs) (kid2 : Nat → Bs) (w : World) :
    Calls Try.prog 4 #[.agg (nd k p v kid).toArray, .agg (nd k2 p2 v2 kid2).toArray] w fun e w' => e = .returned (.bool true) ∧ Below w.heap.size w w' := by
  have hN0 := (Blk.new w (nd k p v kid).toArray 25).alloc (.cells (nd k2 p2 v2 kid2).toArray 25)
  have hM0 := Blk.new (w.alloc (.cells (nd k p v kid).toArray 25)) (nd k2 p2 v2 kid2).toArray 25
  have hb0 : Below w.heap.size w ((w.alloc (.cells (nd k p v kid).toArray 25)).alloc (.cells (nd k2 p2 v2 kid2).toArray 25)) := Below.allocS (Below.allocS (Below.refl _ _) _) _
  rw [show (w.alloc (.cells (nd k p v kid).toArray 25)).heap.size = w.heap.size + 1 from by simp] at hM0
  go_enter Try.func4, Try.ntmps4
  go_wp2_with fail
  refine (works8_any _).mono ?_
  rintro e w1 ⟨rfl, hb⟩
  have N1 := hN0.keep hb
  have M1 := hM0.keep hb
  have hb1 := hb0.trans (hb.mono hb0.size)
  clear hN0 hM0 hb0 hb
  go_wp2_with (refine wpList_node rfl (.tmp 2) rfl rfl N1 ?_)
  refine (big_any k p v kid _).mono ?_
  rintro e w2 ⟨rfl, hb⟩
  have N2 := N1.keep hb
  have M2 := M1.keep hb
  have hb2 := hb1.trans (hb.mono hb1.size)
  clear N1 M1 hb1 hb
  cases hB1 : bigB p v kid
  · have hp := (big_no hB1).1
    go_wp2_with (refine wpList_nodeG ?hw (.tmp 3) rfl rfl M2 ?_; (case hw => rfl))
    refine (big_any k2 p2 v2 kid2 _).mono ?_
    rintro e w3 ⟨rfl, hb⟩
    have N3 := N2.keep hb
    have M3 := M2.keep hb
    have hb3 := hb2.trans (hb.mono hb2.size)
    clear N2 M2 hb2 hb
    cases hB2 : bigB p2 v2 kid2
    · have hp2 := (big_no hB2).1
      go_wp2_with (refine wpList_node rfl (.tmp 2) rfl rfl N3 ?_)
      refine (encode_any k p v kid (by omega) _).mono ?_
      rintro e w4 ⟨rfl, hb⟩
      have N4 := N3.keep hb
      have M4 := M3.keep hb
      have hb4 := hb3.trans (hb.mono hb3.size)
      clear N3 M3 hb3 hb
      go_wp2_with (refine wpList_node rfl (.tmp 3) rfl rfl M4 ?_)
      refine (encode_any k2 p2 v2 kid2 (by omega) _).mono ?_
      rintro e w5 ⟨rfl, hb⟩
      have N5 := N4.keep hb
      have M5 := M4.keep hb
      have hb5 := hb4.trans (hb.mono hb4.size)
      clear N4 M4 hb4 hb
      cases hc1 : chk k p v kid
      · rw [show encR k p v kid = ([], 80) from by simp [encR, hc1]]
        go_wp2_with fail
        all_goals (go_ret; exact ⟨rfl, hb5⟩)
      · rw [show encR k p v kid = (enc k p v kid, 0) from by simp [encR, hc1]]
        cases hc2 : chk k2 p2 v2 kid2
        · rw [show encR k2 p2 v2 kid2 = ([], 80) from by simp [encR, hc2]]
          go_wp2_with fail
          all_goals (go_ret; exact ⟨rfl, hb5⟩)
        · rw [show encR k2 p2 v2 kid2 = (enc k2 p2 v2 kid2, 0) from by simp [encR, hc2]]
          obtain ⟨hu1, hu2⟩ := unlike hc1 hc2
          have he := eqNd_iff k p v kid k2 p2 v2 kid2
          rw [← he] at hu1 hu2
          clear he hc1 hc2 hB1 hB2
          generalize enc k p v kid = a at *
          generalize enc k2 p2 v2 kid2 = b at *
          cases hE : eqNd k p v kid k2 p2 v2 kid2
          · rw [hE] at hu1 hu2
            have hab : ¬ a = b := fun h => by simpa using hu1.1 h
            have hba : ¬ (a.length ≤ b.length ∧ b.take a.length = a) := fun h => by simpa using hu2.1 h
            clear hu1 hu2
            by_cases hl : a.length ≤ b.length
            · have ht : ¬ b.take a.length = a := fun h => hba ⟨hl, h⟩
              clear hba
              have hd : decide ((a.length : Int) ≤ (b.length : Int)) = true := by simp; omega
              go_wp2_with (first | (refine wpList_node rfl (.tmp 2) rfl rfl N5 ?_) | (refine wpList_node rfl (.tmp 3) rfl rfl M5 ?_))
              all_goals (go_ret; exact ⟨ret_bool (by rw [show (a == b) = false from by simpa using hab, show (b.take a.length == a) = false from by simpa using ht]; simp), hb5⟩)
            · have hd : decide ((a.length : Int) ≤ (b.length : Int)) = false := by simp; omega
              clear hba
              go_wp2_with (first | (refine wpList_node rfl (.tmp 2) rfl rfl N5 ?_) | (refine wpList_node rfl (.tmp 3) rfl rfl M5 ?_))
              all_goals (go_ret; exact ⟨ret_bool (by simp [hab]), hb5⟩)
          · have hab := hu1.2 hE
            subst hab
            clear hu1 hu2
            go_wp2_with (first | (refine wpList_node rfl (.tmp 2) rfl rfl N5 ?_) | (refine wpList_node rfl (.tmp 3) rfl rfl M5 ?_))
            all_goals (go_ret; exact ⟨rfl, hb5⟩)
    · go_wp2_with fail
      all_goals (go_ret; exact ⟨rfl, hb3⟩)
  · go_wp2_with fail
    all_goals (go_ret; exact ⟨rfl, hb2⟩)

end Go.Proofs.Ytphlcpnijekbaaa
