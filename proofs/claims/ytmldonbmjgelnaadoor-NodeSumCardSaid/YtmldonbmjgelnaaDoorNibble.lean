/- Walks of layer 1: paths of half bytes. -/
import Derived.Test.YtmldonbmjgelnaaDoorBytes
import Derived.Test.YtmldonbmjgelnaaDoorPlain
set_option linter.unusedSimpArgs false
set_option linter.unusedVariables false
namespace Go.Proofs.YtmldonbmjgelnaaDoor
open Go.RowKit Pl

theorem nfit_any (s : Bs) (hs : s.length ≤ 9223372036854775807) (w : World) :
    Calls Tryd.prog 98 #[.string ⟨List.toArray (s)⟩] w fun e w' => e = .returned (.bool (fit s)) ∧ w = w' := by
  go_enter Tryd.func98, Tryd.ntmps98
  go_wp2_with fail
  go_loop [6] (fun s6 => ∃ i : Nat, i ≤ s.length ∧ s6 = .int .i64 i ∧ Hid (fit (s.take i) = true)) (fun s6 => s.length - (intOf s6).toNat)
  case atStart => exact ⟨0, by omega, rfl, Lib.hid (by simp [fit])⟩
  case round =>
    obtain ⟨i, hi, rfl, HF⟩ := hrel
    by_cases hlt : i < s.length
    · have hbi := s[i].toNat_lt
      by_cases h15 : 15 < s[i].toNat
      · have h15' : (15 : Int) < (s[i].toNat : Int) := by omega
        have HN := Lib.hid (fit_not s i hlt h15)
        go_wp2_with fail
        go_ret
        exact ⟨by rw [HN.out]; rfl, rfl⟩
      · have h15' : ¬ (15 : Int) < (s[i].toNat : Int) := by omega
        go_wp2_with fail
        exact ⟨⟨i + 1, by omega, by go_num, Lib.hid (by rw [fit_take s i hlt, HF.out]; simp; omega)⟩, by simp [intOf] <;> omega⟩
    · have hie : s.take i = s := List.take_of_length_le (by omega)
      have HN : Hid (fit s = true) := Lib.hid (by rw [← hie]; exact HF.out)
      clear hie
      go_wp2_with fail
      go_ret
      exact ⟨by rw [HN.out]; rfl, rfl⟩

set_option maxRecDepth 100000 in
set_option maxHeartbeats 1000000 in
theorem nof_any (s : Bs) (hs : s.length ≤ 35184372088832) (w : World) :
    Calls Tryd.prog 115 #[.string ⟨List.toArray (s)⟩] w fun e w' => e = .returned (.string ⟨List.toArray (ofP s)⟩) ∧ Below w.heap.size w w' := by
  obtain ⟨w1, hmk, hB, hb1⟩ := BRow.make w w.heap.size (2 * s.length) (by omega) (Nat.le_refl _)
  have hcast : (((2 * s.length : Nat)) : Int) = 2 * (s.length : Int) := by simp
  rw [hcast] at hmk
  clear hcast
  go_enter Tryd.func115, Tryd.ntmps115
  go_wp2_with fail
  go_loopw [3, 11] (fun s3 s11 wr => ∃ i : Nat, i ≤ s.length ∧ s11 = .int .i64 i ∧ BRow wr w.heap.size s3 (ofP (s.take i)) ∧ Below w.heap.size w wr) (fun _ s11 _ => s.length - (intOf s11).toNat)
  case atStart => exact ⟨0, by omega, rfl, hB, hb1⟩
  case round =>
    clear hmk hB hb1
    obtain ⟨i, hi, rfl, hB, hb⟩ := hrel
    rename_i wr
    by_cases hlt : i < s.length
    · have hbi := s[i].toNat_lt
      have hol := ofP_len (s.take i)
      have htl : (s.take i).length = i := by simp; omega
      have HOL : Hid ((ofP (s.take i)).length = 2 * i) := Lib.hid (by rw [hol, htl])
      clear hol htl
      go_wp2_with fail
      go_region_law (refine step_appB rfl (.tmp 14) (.tmp 23) rfl w.heap.size _ (ofP (s.take i)) rfl (hB.alloc _).drew wr.heap.size 0 2 2 [UInt8.ofNat (s[i].toNat / 16), UInt8.ofNat (s[i].toNat % 16)] rfl rfl (bsrc2 _ _ _ _ _ _ (by simp; omega) (by rw [u8_and15 _ hbi]; simp; omega)).drew (by rw [HOL.out]; omega) (by have := hb.size; simp; omega) ?_; rintro v' w2 hB2 hb2)
      all_goals go_wp2_with fail
      all_goals exact ⟨⟨i + 1, by omega, by go_num, by rw [List.take_succ_eq_append_getElem hlt, ofP_snoc]; exact hB2, (Below.allocS hb _).drew.trans hb2⟩, by simp [intOf] <;> omega⟩
    · have hcv := hB.conv
      go_wp2_with fail
      go_ret
      refine ⟨?_, hb⟩
      rw [List.take_of_length_le (by omega)]; rfl

theorem joined_at : ∀ (s : Bs) (i : Nat) (h : 2 * i + 1 < s.length), joined (s.take (2 * i + 2)) = joined (s.take (2 * i)) ++ [UInt8.ofNat ((s[2 * i]'(by omega)).toNat * 16 + (s[2 * i + 1]).toNat)]
  | a :: b :: r, 0, _ => by simp [joined]
  | a :: b :: r, i + 1, h => by
    have h' : 2 * i + 1 < r.length := by simp at h; omega
    have ih := joined_at r i h'
    have e1 : (a :: b :: r).take (2 * (i + 1) + 2) = a :: b :: r.take (2 * i + 2) := by
      rw [show 2 * (i + 1) + 2 = (2 * i + 2) + 1 + 1 from by omega]; simp
    have e2 : (a :: b :: r).take (2 * (i + 1)) = a :: b :: r.take (2 * i) := by
      rw [show 2 * (i + 1) = (2 * i) + 1 + 1 from by omega]; simp
    rw [e1, e2]
    simp only [joined, ih, List.cons_append]
    rfl
  | [], _, h => by simp at h
  | [_], i, h => by simp at h
theorem joined_all (s : Bs) : joined (s.take (2 * (s.length / 2))) = joined s := by
  by_cases h : s.length % 2 = 0
  · rw [List.take_of_length_le (by omega)]
  · have : ∀ (n : Nat) (s : Bs), s.length = 2 * n + 1 → joined (s.take (2 * n)) = joined s := by
      intro n
      induction n with
      | zero =>
        intro s hs
        match s, hs with
        | [a], _ => rfl
      | succ n ih =>
        intro s hs
        match s, hs with
        | a :: b :: r, hs =>
          have e2 : (a :: b :: r).take (2 * (n + 1)) = a :: b :: r.take (2 * n) := by
            rw [show 2 * (n + 1) = (2 * n) + 1 + 1 from by omega]; simp
          rw [e2]
          simp only [joined]
          rw [ih r (by simp at hs; omega)]
    rw [show 2 * (s.length / 2) = 2 * (s.length / 2) from rfl]
    exact this (s.length / 2) s (by omega)
theorem joined_len : ∀ (s : Bs), (joined s).length = s.length / 2
  | [] => rfl
  | [_] => by simp [joined]
  | a :: b :: r => by simp [joined, joined_len r]; omega

set_option maxRecDepth 100000 in
set_option maxHeartbeats 1000000 in
theorem njoined_any (s : Bs) (hf : fit s = true) (hs : s.length ≤ 35184372088832) (w : World) :
    Calls Tryd.prog 99 #[.string ⟨List.toArray (s)⟩] w fun e w' => e = .returned (.string ⟨List.toArray (joined s)⟩) ∧ Below w.heap.size w w' := by
  obtain ⟨w1, hmk, hB, hb1⟩ := BRow.make w w.heap.size (s.length / 2) (by omega) (Nat.le_refl _)
  have hcast : (((s.length / 2 : Nat)) : Int) = (s.length : Int) / 2 := by omega
  rw [hcast] at hmk
  clear hcast
  have HFit := Lib.hid hf
  clear hf
  go_enter Tryd.func99, Tryd.ntmps99
  go_wp2_with fail
  go_loopw [3, 12] (fun s3 s12 wr => ∃ i : Nat, i ≤ s.length / 2 ∧ s12 = .int .i64 i ∧ BRow wr w.heap.size s3 (joined (s.take (2 * i))) ∧ Below w.heap.size w wr) (fun _ s12 _ => s.length / 2 - (intOf s12).toNat)
  case atStart => exact ⟨0, by omega, rfl, hB, hb1⟩
  case round =>
    clear hmk hB hb1
    obtain ⟨i, hi, rfl, hB, hb⟩ := hrel
    rename_i wr
    by_cases hlt : i < s.length / 2
    · have h2 : 2 * i + 1 < s.length := by omega
      have hlt' : (i : Int) < (s.length : Int) / 2 := by omega
      have ha := fit_at s HFit.out (2 * i) (by omega)
      have hb' := fit_at s HFit.out (2 * i + 1) h2
      have HJ := Lib.hid (joined_at s i h2)
      have HL : Hid ((joined (s.take (2 * i))).length = i) := Lib.hid (by rw [joined_len]; simp; omega)
      have hai : (s[2 * i].toNat : Int) ≤ 15 := by omega
      have hbi : (s[2 * i + 1].toNat : Int) ≤ 15 := by omega
      have q1 : (0 : Int) ≤ 2 * (i : Int) := by omega
      have q2 : 2 * (i : Int) < (s.length : Int) := by omega
      have q3 : (0 : Int) ≤ 2 * (i : Int) + 1 := by omega
      have q4 : 2 * (i : Int) + 1 < (s.length : Int) := by omega
      have q5 : (2 * (i : Int)).toNat = 2 * i := by omega
      have q6 : (2 * (i : Int) + 1).toNat = 2 * i + 1 := by omega
      have q7 : IntKind.i64.wrap (2 * (i : Int)) = 2 * (i : Int) := IntWalk.i64_in _ (by omega)
      have q8 : IntKind.i64.wrap (2 * (i : Int) + 1) = 2 * (i : Int) + 1 := IntWalk.i64_in _ (by omega)
      have q9 : IntKind.u8.wrap ((s[2 * i].toNat : Int) * 16) = (s[2 * i].toNat : Int) * 16 := by rw [IntKind.wrap_u8']; omega
      go_wp2_with fail
      go_region_law (refine step_appB rfl (.tmp 15) (.tmp 27) rfl w.heap.size _ (joined (s.take (2 * i))) rfl (hB.alloc _).drew wr.heap.size 0 1 1 [UInt8.ofNat (s[2 * i].toNat * 16 + s[2 * i + 1].toNat)] rfl rfl (bsrc1 _ _ _ _ (by rw [u8_or_hi _ _ (by omega) (by omega)]; simp; omega)).drew (by rw [HL.out]; omega) (by have := hb.size; simp; omega) ?_; rintro v' w2 hB2 hb2)
      all_goals go_wp2_with fail
      all_goals exact ⟨⟨i + 1, by omega, by go_num, by rw [show 2 * (i + 1) = 2 * i + 2 from by omega, HJ.out]; exact hB2, (Below.allocS hb _).drew.trans hb2⟩, by simp [intOf] <;> omega⟩
    · have hcv := hB.conv
      have hlt' : ¬ (i : Int) < (s.length : Int) / 2 := by omega
      have hii : i = s.length / 2 := by omega
      have HJ : Hid (joined (s.take (2 * i)) = joined s) := Lib.hid (by rw [hii]; exact joined_all s)
      clear hii
      go_wp2_with fail
      go_ret
      refine ⟨?_, hb⟩
      rw [← HJ.out]; rfl

end Go.Proofs.YtmldonbmjgelnaaDoor
