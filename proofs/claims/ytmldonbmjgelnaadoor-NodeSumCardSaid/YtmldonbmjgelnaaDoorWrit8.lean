/- Walks of the document's answer for layer 8: a node's bytes. -/
import Derived.Test.YtmldonbmjgelnaaDoorRef8
import Derived.Test.YtmldonbmjgelnaaDoorEnc
set_option linter.unusedSimpArgs false
set_option linter.unusedVariables false
namespace Go.Proofs.YtmldonbmjgelnaaDoor
open Go.RowKit Pl

set_option maxRecDepth 100000 in
set_option maxHeartbeats 1000000 in
theorem writ_leaf (path val : Bs) (kid : Nat → Bs) (hpl : path.length ≤ 16) (hvl : val.length ≤ 32) (w : World) :
    Calls Tryd.prog 67 #[.agg (nd 1 path val kid).toArray] w fun e w' => e = .returned (.string ⟨List.toArray (1 :: (text (pack path true).1 ++ text val))⟩) ∧ Below w.heap.size w w' := by
  have h1 := text_len val
  have h2 := text_len (pack path true).1
  have h3 := pack_len path true
  have hB0 := Blk.new w (nd 1 path val kid).toArray 24
  have hb0 : Below w.heap.size w (w.alloc (.cells (nd 1 path val kid).toArray 24)) := Below.allocS (Below.refl _ _) _
  obtain ⟨b1, b2, b3⟩ := id hB0
  go_enter Tryd.func67, Tryd.ntmps67
  go_wp2_with fail
  refine (rpack_any path true (by omega) _).mono ?_
  rintro e w2 ⟨rfl, hb2⟩
  have hb3 : Below w.heap.size w w2 := (Below.allocS hb0 _).trans (hb2.mono (by have := hb0.size; simp; omega))
  have hB2 : Blk w2 w.heap.size (nd 1 path val kid).toArray := (hB0.alloc _).keep hb2
  clear hb2 hB0 hb0 b1 b2 b3
  obtain ⟨b1, b2, b3⟩ := id hB2
  go_wp2_with fail
  refine (rText_any (pack path true).1 (by omega) _).mono ?_
  rintro e w3 ⟨rfl, hb4⟩
  have hb5 : Below w.heap.size w w3 := hb3.trans (hb4.mono hb3.size)
  have hB3 : Blk w3 w.heap.size (nd 1 path val kid).toArray := hB2.keep hb4
  clear hb4 hB2 b1 b2 b3
  obtain ⟨b1, b2, b3⟩ := id hB3
  have hcat : ¬ 9223372036854775807 < 1 + (text (pack path true).1).length := by omega
  go_wp2_with fail
  refine (rText_any val (by omega) _).mono ?_
  rintro e w4 ⟨rfl, hb6⟩
  have hcat2 : ¬ 9223372036854775807 < (text (pack path true).1).length + 1 + (text val).length := by omega
  go_wp2_with fail
  all_goals (go_ret; exact ⟨by simp, hb5.trans (hb6.mono hb5.size)⟩)

set_option maxRecDepth 100000 in
set_option maxHeartbeats 1000000 in
theorem writ_ext (path val : Bs) (kid : Nat → Bs) (hpl : path.length ≤ 16) (hkl : (kid 0).length ≤ 32) (w : World) :
    Calls Tryd.prog 67 #[.agg (nd 2 path val kid).toArray] w fun e w' => e = .returned (.string ⟨List.toArray (2 :: (text (pack path false).1 ++ kid 0))⟩) ∧ Below w.heap.size w w' := by
  have h2 := text_len (pack path false).1
  have h3 := pack_len path false
  have hB0 := Blk.new w (nd 2 path val kid).toArray 24
  have hb0 : Below w.heap.size w (w.alloc (.cells (nd 2 path val kid).toArray 24)) := Below.allocS (Below.refl _ _) _
  obtain ⟨b1, b2, b3⟩ := id hB0
  go_enter Tryd.func67, Tryd.ntmps67
  go_wp2_with fail
  refine (rpack_any path false (by omega) _).mono ?_
  rintro e w2 ⟨rfl, hb2⟩
  have hb3 : Below w.heap.size w w2 := (Below.allocS hb0 _).trans (hb2.mono (by have := hb0.size; simp; omega))
  have hB2 : Blk w2 w.heap.size (nd 2 path val kid).toArray := (hB0.alloc _).keep hb2
  clear hb2 hB0 hb0 b1 b2 b3
  obtain ⟨b1, b2, b3⟩ := id hB2
  go_wp2_with fail
  refine (rText_any (pack path false).1 (by omega) _).mono ?_
  rintro e w3 ⟨rfl, hb4⟩
  have hb5 : Below w.heap.size w w3 := hb3.trans (hb4.mono hb3.size)
  have hB3 : Blk w3 w.heap.size (nd 2 path val kid).toArray := hB2.keep hb4
  clear hb4 hB2 b1 b2 b3
  obtain ⟨b1, b2, b3⟩ := id hB3
  have hcat : ¬ 9223372036854775807 < 1 + (text (pack path false).1).length := by omega
  have hcat2 : ¬ 9223372036854775807 < (text (pack path false).1).length + 1 + (kid 0).length := by omega
  go_wp2_with fail
  all_goals (go_ret; exact ⟨by simp, hb5⟩)

theorem flat_take (kid : Nat → Bs) (ha : all32 (kidsF kid) = true) (k : Nat) (hk : k ≤ 16) : (kidsTo kid k).flatten.length ≤ 512 := by
  have h : ∃ m, kidsTo kid k ++ m = kidsF kid := by
    have : ∀ j, ∃ m, kidsTo kid k ++ m = kidsTo kid (k + j) := by
      intro j
      induction j with
      | zero => exact ⟨[], by simp⟩
      | succ j ih =>
        obtain ⟨m, hm⟩ := ih
        exact ⟨m ++ (if kid (k + j) = [] then [] else [kid (k + j)]), by rw [← List.append_assoc, hm, ← Nat.add_assoc, kidsTo_succ]⟩
    obtain ⟨m, hm⟩ := this (16 - k)
    exact ⟨m, by rw [hm, show k + (16 - k) = 16 from by omega]; rfl⟩
  obtain ⟨m, hm⟩ := h
  have h2 := flat_len _ ha
  have h3 : (kidsF kid).length ≤ 16 := kidsTo_len kid 16
  have h4 : (kidsF kid).flatten.length = (kidsTo kid k).flatten.length + m.flatten.length := by
    rw [← hm, List.flatten_append, List.length_append]
  omega

set_option maxRecDepth 100000 in
set_option maxHeartbeats 1000000 in
theorem writ_branch (path val : Bs) (kid : Nat → Bs) (ha : all32 (kidsF kid) = true) (hvl : val.length ≤ 32) (w : World) :
    Calls Tryd.prog 67 #[.agg (nd 3 path val kid).toArray] w fun e w' => e = .returned (.string ⟨List.toArray ([3, UInt8.ofNat (hiK kid), UInt8.ofNat (loK kid)] ++ (kidsF kid).flatten ++ text val)⟩) ∧ Below w.heap.size w w' := by
  have h1 := text_len val
  have HF : Hid (∀ k, k ≤ 16 → (kidsTo kid k).flatten.length ≤ 512) := Lib.hid (flat_take kid ha)
  clear ha
  have hB0 := Blk.new w (nd 3 path val kid).toArray 24
  have hb0 : Below w.heap.size w (w.alloc (.cells (nd 3 path val kid).toArray 24)) := Below.allocS (Below.refl _ _) _
  obtain ⟨b1, b2, b3⟩ := id hB0
  go_enter Tryd.func67, Tryd.ntmps67
  go_wp2_with fail
  have hB1 := hB0.alloc (.cells #[.int .u8 3] 5)
  have hb1 := Below.allocS hb0 (.cells #[.int .u8 3] 5)
  clear b1 b2 b3 hB0 hb0
  go_loop [4, 5, 6, 7] (fun s4 s5 s6 s7 => ∃ k : Nat, k ≤ 16 ∧ s7 = .int .i64 k ∧ s4 = .int .i64 (hiT kid k) ∧ s5 = .int .i64 (loT kid k) ∧ s6 = .string ⟨List.toArray ((kidsTo kid k).flatten)⟩) (fun _ _ _ s7 => 16 - (intOf s7).toNat)
  case atStart => exact ⟨0, by omega, rfl, rfl, rfl, by simp [kidsTo]⟩
  case round =>
    obtain ⟨k, hk, rfl, rfl, rfl, rfl⟩ := hrel
    by_cases hlt : k < 16
    · have hki := blk_kid hB1 k hlt
      have hfr := hB1.froz
      have hh := hiT_lt kid k
      have hl := loT_lt kid k hk
      have hfk := HF.out k hk
      have hfk2 := HF.out (k + 1) (by omega)
      rw [flat_succ, List.length_append] at hfk2
      have HFS := Lib.hid (flat_succ kid k)
      have hlt' : (k : Int) < 16 := by omega
      by_cases h8 : k < 8
      · obtain ⟨e1, e2⟩ := hiT_lo kid k h8
        have h8' : decide ((k : Int) < 8) = true := by simp; omega
        by_cases he : kid k = []
        · rw [bitv, if_pos he] at e1
          have E1 := Lib.hid e1
          have E2 := Lib.hid e2
          clear e1 e2
          rw [he] at hki hfk2 HFS
          clear he
          generalize hiT kid k = hi at *
          generalize loT kid k = lo at *
          generalize (kidsTo kid k).flatten = fl at *
          go_wp2_with fail
          exact ⟨⟨k + 1, by omega, by go_num, by simp [E1.out], by simp [E2.out], by simp [HFS.out]⟩, by simp [intOf]; omega⟩
        · rw [bitv, if_neg he] at e1
          have E1 := Lib.hid e1
          have E2 := Lib.hid e2
          clear e1 e2
          have he1 : (kid k).isEmpty = false := by simpa using he
          clear he
          generalize kid k = x at *
          generalize hiT kid k = hi at *
          generalize loT kid k = lo at *
          generalize (kidsTo kid k).flatten = fl at *
          have hcat : ¬ 9223372036854775807 < fl.length + x.length := by omega
          go_wp2_with fail
          exact ⟨⟨k + 1, by omega, by go_num, by simp [E1.out], by simp [E2.out], by simp [HFS.out]⟩, by simp [intOf]; omega⟩
      · obtain ⟨e1, e2⟩ := loT_hi kid k (by omega)
        have h8' : decide ((k : Int) < 8) = false := by simp; omega
        by_cases he : kid k = []
        · rw [bitv, if_pos he] at e1
          have E1 := Lib.hid e1
          have E2 := Lib.hid e2
          clear e1 e2
          rw [he] at hki hfk2 HFS
          clear he
          generalize hiT kid k = hi at *
          generalize loT kid k = lo at *
          generalize (kidsTo kid k).flatten = fl at *
          go_wp2_with fail
          exact ⟨⟨k + 1, by omega, by go_num, by simp [E2.out], by simp [E1.out], by simp [HFS.out]⟩, by simp [intOf]; omega⟩
        · rw [bitv, if_neg he] at e1
          have E1 := Lib.hid e1
          have E2 := Lib.hid e2
          clear e1 e2
          have he1 : (kid k).isEmpty = false := by simpa using he
          clear he
          generalize kid k = x at *
          generalize hiT kid k = hi at *
          generalize loT kid k = lo at *
          generalize (kidsTo kid k).flatten = fl at *
          have hcat : ¬ 9223372036854775807 < fl.length + x.length := by omega
          go_wp2_with fail
          exact ⟨⟨k + 1, by omega, by go_num, by simp [E2.out], by simp [E1.out], by simp [HFS.out]⟩, by simp [intOf]; omega⟩
    · have hke : k = 16 := by omega
      subst hke
      have hfk := HF.out 16 (by omega)
      have hh := hiK_lt kid
      have hl := loK_lt kid
      have HH : Hid ((kidsTo kid 16).flatten = (kidsF kid).flatten) := Lib.hid rfl
      rw [show hiT kid 16 = hiK kid from rfl, show loT kid 16 = loK kid from by rw [loK_eq]; rfl]
      generalize (kidsTo kid 16).flatten = fl at *
      have hcat : ¬ 9223372036854775807 < 1 + 2 := by omega
      have hcat1 : ¬ 9223372036854775807 < fl.length + 1 + 1 + 1 := by omega
      have hcat2 : ¬ 9223372036854775807 < fl.length + 1 + 1 + 1 + (text val).length := by omega
      have q1 : IntKind.u8.wrap ((hiK kid : Nat) : Int) = ((hiK kid : Nat) : Int) := by rw [IntKind.wrap_u8']; omega
      have q2 : IntKind.u8.wrap ((loK kid : Nat) : Int) = ((loK kid : Nat) : Int) := by rw [IntKind.wrap_u8']; omega
      have hcat3 : ¬ 9223372036854775807 < 3 + fl.length := by omega
      have hcat4 : ¬ 9223372036854775807 < 3 + fl.length + (text val).length := by omega
      obtain ⟨b1, b2, b3⟩ := id hB1
      go_wp2_with fail
      go_region_with (go_at_call 72; refine (rText_any val (by omega) _).mono ?_; rintro e w' ⟨rfl, hbx⟩; obtain ⟨hcx, hfx⟩ := bcell hbx)
      all_goals go_wp2_with fail
      all_goals go_ret
      all_goals exact ⟨by rw [← HH.out]; rfl, by (repeat (first | exact Below.refl _ _ | assumption | apply Below.drew | apply below_drewN | apply Below.allocS | (refine Below.setCell ?_ (by simp <;> omega) _) | (refine Below.alloc ?_ (by simp <;> omega) _) | (refine Below.trans ?_ (Below.mono (by assumption) (by simp <;> omega)))))⟩

end Go.Proofs.YtmldonbmjgelnaaDoor
