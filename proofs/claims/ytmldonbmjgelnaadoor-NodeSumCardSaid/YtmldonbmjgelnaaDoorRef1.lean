/- Walks of the document's answer for layer 1. -/
import Derived.Test.YtmldonbmjgelnaaDoorNibble
set_option linter.unusedSimpArgs false
set_option linter.unusedVariables false
namespace Go.Proofs.YtmldonbmjgelnaaDoor
open Go.RowKit Pl

theorem rfit_any (s : Bs) (hs : s.length ≤ 9223372036854775807) (w : World) :
    Calls Tryd.prog 100 #[.string ⟨List.toArray (s)⟩] w fun e w' => e = .returned (.bool (fit s)) ∧ w = w' := by
  go_enter Tryd.func100, Tryd.ntmps100
  go_wp2_with fail
  go_loop [3] (fun s3 => ∃ i : Nat, i ≤ s.length ∧ s3 = .int .i64 i ∧ Hid (fit (s.take i) = true)) (fun s3 => s.length - (intOf s3).toNat)
  case atStart => exact ⟨0, by omega, rfl, Lib.hid (by simp [fit])⟩
  case round =>
    obtain ⟨i, hi, rfl, HF⟩ := hrel
    by_cases hlt : i < s.length
    · have hbi := s[i].toNat_lt
      by_cases h15 : 15 < s[i].toNat
      · have h15' : (15 : Int) < (s[i].toNat : Int) := by omega
        have HN := Lib.hid (fit_not s i hlt h15)
        go_wp2_with fail
        go_ret
        exact ⟨by rw [HN.out]; rfl, rfl⟩
      · have h15' : ¬ (15 : Int) < (s[i].toNat : Int) := by omega
        go_wp2_with fail
        exact ⟨⟨i + 1, by omega, by go_num, Lib.hid (by rw [fit_take s i hlt, HF.out]; simp; omega)⟩, by simp [intOf] <;> omega⟩
    · have hie : s.take i = s := List.take_of_length_le (by omega)
      have HN : Hid (fit s = true) := Lib.hid (by rw [← hie]; exact HF.out)
      clear hie
      go_wp2_with fail
      go_ret
      exact ⟨by rw [HN.out]; rfl, rfl⟩


theorem rkey_bad (s : Bs) (hf : fit s = false) (hs : s.length ≤ 35184372088832) (w : World) :
    Calls Tryd.prog 116 #[.string ⟨List.toArray (s)⟩] w fun e w' => e = .returned (.tuple #[.string ⟨List.toArray ([])⟩, .int .i64 (3)]) ∧ Below w.heap.size w w' := by
  go_enter Tryd.func116, Tryd.ntmps116
  go_wp2_with fail
  refine (rfit_any s (by omega) _).mono ?_
  rintro e w1 ⟨rfl, rfl⟩
  rw [hf]
  go_wp2_with fail
  go_ret2
  exact ⟨rfl, Below.refl _ _⟩

set_option maxRecDepth 100000 in
set_option maxHeartbeats 1000000 in
theorem rkey_even (s : Bs) (hf : fit s = true) (hev : s.length % 2 = 0) (hs : s.length ≤ 35184372088832) (w : World) :
    Calls Tryd.prog 116 #[.string ⟨List.toArray (s)⟩] w fun e w' => e = .returned (.tuple #[.string ⟨List.toArray (joined s)⟩, .int .i64 (0)]) ∧ Below w.heap.size w w' := by
  have hodd : ((s.length : Int) % 2 != 0) = false := by simp; omega
  have HFit := Lib.hid hf
  have HEV := Lib.hid hev
  clear hf hev
  go_enter Tryd.func116, Tryd.ntmps116
  go_wp2_with fail
  refine (rfit_any s (by omega) _).mono ?_
  rintro e w1 ⟨rfl, rfl⟩
  rw [HFit.out]
  go_wp2_with fail
  go_loopw [4, 5] (fun s4 s5 wr => ∃ i : Nat, i ≤ s.length / 2 ∧ s5 = .int .i64 (2 * (i : Int)) ∧ s4 = .string ⟨List.toArray (joined (s.take (2 * i)))⟩ ∧ Below w.heap.size w wr) (fun _ s5 _ => s.length - (intOf s5).toNat)
  case atStart => exact ⟨0, by omega, rfl, rfl, Below.refl _ _⟩
  case round =>
    obtain ⟨i, hi, rfl, rfl, hb⟩ := hrel
    rename_i wr
    by_cases hlt : i < s.length / 2
    · have h2 : 2 * i + 1 < s.length := by omega
      have ha := fit_at s HFit.out (2 * i) (by omega)
      have hb' := fit_at s HFit.out (2 * i + 1) h2
      have HJ := Lib.hid (joined_at s i h2)
      have hL : (joined (s.take (2 * i))).length = i := by rw [joined_len]; simp; omega
      have hcat : ¬ 9223372036854775807 < (joined (s.take (2 * i))).length + 1 := by omega
      clear hL
      have hai : (s[2 * i].toNat : Int) ≤ 15 := by omega
      have hbi : (s[2 * i + 1].toNat : Int) ≤ 15 := by omega
      have q1 : (0 : Int) ≤ 2 * (i : Int) := by omega
      have q2 : 2 * (i : Int) < (s.length : Int) := by omega
      have q3 : (0 : Int) ≤ 2 * (i : Int) + 1 := by omega
      have q4 : 2 * (i : Int) + 1 < (s.length : Int) := by omega
      have q5 : (2 * (i : Int)).toNat = 2 * i := by omega
      have q6 : (2 * (i : Int) + 1).toNat = 2 * i + 1 := by omega
      have q8 : IntKind.i64.wrap (2 * (i : Int) + 1) = 2 * (i : Int) + 1 := IntWalk.i64_in _ (by omega)
      have q9 : IntKind.u8.wrap ((s[2 * i].toNat : Int) * 16) = (s[2 * i].toNat : Int) * 16 := by rw [IntKind.wrap_u8']; omega
      have q10 : IntKind.u8.wrap ((s[2 * i].toNat : Int) * 16 + (s[2 * i + 1].toNat : Int)) = (s[2 * i].toNat : Int) * 16 + (s[2 * i + 1].toNat : Int) := by rw [IntKind.wrap_u8']; omega
      have q11 : ((s[2 * i].toNat : Int) * 16 + (s[2 * i + 1].toNat : Int)).toNat = s[2 * i].toNat * 16 + s[2 * i + 1].toNat := by omega
      go_wp2_with fail
      go_region
      all_goals go_wp2_with fail
      refine ⟨⟨i + 1, by omega, by go_num, by rw [show 2 * (i + 1) = 2 * i + 2 from by omega, HJ.out]; simp, by (repeat (first | exact Below.refl _ _ | assumption | apply Below.drew | apply below_drewN | apply Below.allocS | (refine Below.setCell ?_ (by simp <;> omega) _) | (refine Below.alloc ?_ (by simp <;> omega) _) | (refine Below.trans ?_ (Below.mono (by assumption) (by simp <;> omega)))))⟩, by simp [intOf]; omega⟩
    · have hii : i = s.length / 2 := by omega
      have HJ : Hid (joined (s.take (2 * i)) = joined s) := Lib.hid (by rw [hii]; exact joined_all s)
      have hlt' : ¬ 2 * (i : Int) < (s.length : Int) := by have := HEV.out; omega
      clear hii
      rw [HJ.out]
      go_wp2_with fail
      go_ret2
      exact ⟨rfl, hb⟩

theorem fit_cons (c : UInt8) (s : Bs) : fit (c :: s) = (decide (c.toNat ≤ 15) && fit s) := by simp [fit]

set_option maxRecDepth 100000 in
set_option maxHeartbeats 1000000 in
theorem rpack_any (s : Bs) (leaf : Bool) (hs : s.length ≤ 35184372080000) (w : World) :
    Calls Tryd.prog 101 #[.string ⟨List.toArray (s)⟩, .bool leaf] w fun e w' => e = .returned (.tuple #[.string ⟨List.toArray ((pack s leaf).1)⟩, .int .i64 ((pack s leaf).2)]) ∧ Below w.heap.size w w' := by
  cases hf : fit s with
  | false =>
    rw [show pack s leaf = ([], 3) from by unfold pack; rw [if_pos hf]]
    go_enter Tryd.func101, Tryd.ntmps101
    go_wp2_with fail
    refine (rfit_any s (by omega) _).mono ?_
    rintro e w1 ⟨rfl, rfl⟩
    rw [hf]
    go_wp2_with fail
    go_ret2
    exact ⟨rfl, Below.refl _ _⟩
  | true =>
    have HF := Lib.hid hf
    clear hf
    have hc2 : ¬ 9223372036854775807 < 2 + s.length := by omega
    have hc1 : ¬ 9223372036854775807 < 1 + s.length := by omega
    by_cases ho : s.length % 2 = 1
    · obtain ⟨c, r, rfl⟩ : ∃ c r, s = c :: r := by
        cases s with
        | nil => simp at ho
        | cons c r => exact ⟨c, r, rfl⟩
      have hc15 : c.toNat ≤ 15 := fit_at _ HF.out 0 (by simp)
      have hev : ∀ k : UInt8, (k :: c :: r).length % 2 = 0 := by intro k; simp at ho ⊢; omega
      have hft : ∀ k : UInt8, k.toNat ≤ 15 → fit (k :: c :: r) = true := by intro k hk; rw [fit_cons, HF.out]; simp [hk]
      rw [show pack (c :: r) leaf = (UInt8.ofNat ((if leaf then 32 else 0) + 16 + c.toNat) :: joined r, 0) from by unfold pack; rw [if_neg (by rw [HF.out]; simp), if_pos ho]; rfl]
      have ho' : (((r.length : Int) + 1) % 2) = 1 := by simp at ho; omega
      have HO := Lib.hid ho
      clear ho
      cases leaf
      · have hres : joined ((1 : UInt8) :: c :: r) = UInt8.ofNat (0 + 16 + c.toNat) :: joined r := by
          simp only [joined]
          congr 1
        go_enter Tryd.func101, Tryd.ntmps101
        go_wp2_with fail
        refine (rfit_any (c :: r) (by simp at hs ⊢; omega) _).mono ?_
        rintro e w1 ⟨rfl, rfl⟩
        rw [HF.out]
        go_wp2_with fail
        refine (rkey_even (1 :: c :: r) (hft 1 (by decide)) (hev 1) (by simp at hs ⊢; omega) _).mono ?_
        rintro e w2 ⟨rfl, hb2⟩
        rw [hres]
        clear hres
        go_wp2_with fail
        go_ret2
        exact ⟨rfl, by (repeat (first | exact Below.refl _ _ | assumption | apply Below.drew | apply below_drewN | apply Below.allocS | (refine Below.setCell ?_ (by simp <;> omega) _) | (refine Below.alloc ?_ (by simp <;> omega) _) | (refine Below.trans ?_ (Below.mono (by assumption) (by simp <;> omega)))))⟩
      · have hres : joined ((3 : UInt8) :: c :: r) = UInt8.ofNat (32 + 16 + c.toNat) :: joined r := by
          simp only [joined]
          congr 1
        go_enter Tryd.func101, Tryd.ntmps101
        go_wp2_with fail
        refine (rfit_any (c :: r) (by simp at hs ⊢; omega) _).mono ?_
        rintro e w1 ⟨rfl, rfl⟩
        rw [HF.out]
        go_wp2_with fail
        refine (rkey_even (3 :: c :: r) (hft 3 (by decide)) (hev 3) (by simp at hs ⊢; omega) _).mono ?_
        rintro e w2 ⟨rfl, hb2⟩
        rw [hres]
        clear hres
        go_wp2_with fail
        go_ret2
        exact ⟨rfl, by (repeat (first | exact Below.refl _ _ | assumption | apply Below.drew | apply below_drewN | apply Below.allocS | (refine Below.setCell ?_ (by simp <;> omega) _) | (refine Below.alloc ?_ (by simp <;> omega) _) | (refine Below.trans ?_ (Below.mono (by assumption) (by simp <;> omega)))))⟩
    · have hev : ∀ k j : UInt8, (k :: j :: s).length % 2 = 0 := by intro k j; simp; omega
      have hft : ∀ k : UInt8, k.toNat ≤ 15 → fit (k :: 0 :: s) = true := by intro k hk; rw [fit_cons, fit_cons, HF.out]; simp [hk]
      rw [show pack s leaf = (UInt8.ofNat (if leaf then 32 else 0) :: joined s, 0) from by unfold pack; rw [if_neg (by rw [HF.out]; simp), if_neg ho]]
      have ho' : ((s.length : Int) % 2) = 0 := by omega
      have HO := Lib.hid ho
      clear ho
      cases leaf
      · have hres : joined ((0 : UInt8) :: 0 :: s) = UInt8.ofNat 0 :: joined s := by
          simp only [joined]
          congr 1
        go_enter Tryd.func101, Tryd.ntmps101
        go_wp2_with fail
        refine (rfit_any s (by omega) _).mono ?_
        rintro e w1 ⟨rfl, rfl⟩
        rw [HF.out]
        go_wp2_with fail
        refine (rkey_even (0 :: 0 :: s) (hft 0 (by decide)) (hev 0 0) (by simp; omega) _).mono ?_
        rintro e w2 ⟨rfl, hb2⟩
        rw [hres]
        clear hres
        go_wp2_with fail
        go_ret2
        exact ⟨rfl, by (repeat (first | exact Below.refl _ _ | assumption | apply Below.drew | apply below_drewN | apply Below.allocS | (refine Below.setCell ?_ (by simp <;> omega) _) | (refine Below.alloc ?_ (by simp <;> omega) _) | (refine Below.trans ?_ (Below.mono (by assumption) (by simp <;> omega)))))⟩
      · have hres : joined ((2 : UInt8) :: 0 :: s) = UInt8.ofNat 32 :: joined s := by
          simp only [joined]
          congr 1
        go_enter Tryd.func101, Tryd.ntmps101
        go_wp2_with fail
        refine (rfit_any s (by omega) _).mono ?_
        rintro e w1 ⟨rfl, rfl⟩
        rw [HF.out]
        go_wp2_with fail
        refine (rkey_even (2 :: 0 :: s) (hft 2 (by decide)) (hev 2 0) (by simp; omega) _).mono ?_
        rintro e w2 ⟨rfl, hb2⟩
        rw [hres]
        clear hres
        go_wp2_with fail
        go_ret2
        exact ⟨rfl, by (repeat (first | exact Below.refl _ _ | assumption | apply Below.drew | apply below_drewN | apply Below.allocS | (refine Below.setCell ?_ (by simp <;> omega) _) | (refine Below.alloc ?_ (by simp <;> omega) _) | (refine Below.trans ?_ (Below.mono (by assumption) (by simp <;> omega)))))⟩

end Go.Proofs.YtmldonbmjgelnaaDoor
