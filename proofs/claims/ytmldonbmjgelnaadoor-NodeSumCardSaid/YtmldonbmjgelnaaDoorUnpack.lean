/- Walks of layer 1: Unpack. -/
import Derived.Test.YtmldonbmjgelnaaDoorNibble
set_option linter.unusedSimpArgs false
set_option linter.unusedVariables false
namespace Go.Proofs.YtmldonbmjgelnaaDoor
open Go.RowKit Pl

theorem nunpack_nil (w : World) :
    Calls Tryd.prog 95 #[.string ⟨List.toArray ([])⟩] w fun e w' => e = .returned (.tuple #[.string ⟨List.toArray ([])⟩, .bool false, .int .i64 (3)]) ∧ Below w.heap.size w w' := by
  go_enter Tryd.func95, Tryd.ntmps95
  go_wp2_with fail
  go_ret3
  exact ⟨rfl, Below.refl _ _⟩

theorem and1 (k : Nat) (h : k < 256) : bits .and .u8 (k : Int) 1 = ((k % 2 : Nat) : Int) := by
  have h' := u8_and_nat k 1 h (by omega)
  rw [Nat.and_one_is_mod] at h'
  exact h'
theorem and2 (k : Nat) (h : k < 4) : bits .and .u8 (k : Int) 2 = if k < 2 then 0 else 2 := by
  have h' := u8_and_nat k 2 (by omega) (by omega)
  have h3 : ∀ k < 4, k &&& 2 = if k < 2 then 0 else 2 := by decide
  rw [h3 k h] at h'
  rw [show ((2 : Nat) : Int) = 2 from rfl] at h'
  rw [h']
  split <;> rfl

set_option maxRecDepth 100000 in
set_option maxHeartbeats 1000000 in
theorem nunpack_cons (c : UInt8) (r : Bs) (hs : r.length ≤ 35184372088000) (w : World) :
    Calls Tryd.prog 95 #[.string ⟨List.toArray (c :: r)⟩] w fun e w' => e = .returned (.tuple #[.string ⟨List.toArray ((unpack (c :: r)).1)⟩, .bool (unpack (c :: r)).2.1, .int .i64 ((unpack (c :: r)).2.2)]) ∧ Below w.heap.size w w' := by
  have hcl := c.toNat_lt
  have h15 := u8_and15 c.toNat hcl
  generalize hk : c.toNat / 16 = k
  generalize hf : c.toNat % 16 = f at h15
  have hck : ((c.toNat : Int) / 16) = (k : Int) := by omega
  have hk16 : k < 16 := by omega
  have h1 := and1 k (by omega)
  have HU : Hid (unpack (c :: r) = if 3 < k ∨ (k % 2 = 0 ∧ f ≠ 0) then ([], false, 3)
    else ((if k % 2 = 1 then UInt8.ofNat f :: ofP r else ofP r), decide (2 ≤ k), 0)) := Lib.hid (by simp only [unpack, hk, hf])
  have hfl : f < 16 := by omega
  clear hk hf
  by_cases h3 : 3 < k
  · rw [show unpack (c :: r) = ([], false, 3) from by rw [HU.out, if_pos (.inl h3)]]
    have h3' : (3 : Int) < (k : Int) := by omega
    go_enter Tryd.func95, Tryd.ntmps95
    go_wp2_with fail
    go_quiet (fail)
    go_wp2_with fail
    all_goals go_ret3
    all_goals exact ⟨rfl, by (repeat (first | exact Below.refl _ _ | assumption | apply Below.drew | apply below_drewN | apply Below.allocS | (refine Below.setCell ?_ (by simp <;> omega) _) | (refine Below.alloc ?_ (by simp <;> omega) _) | (refine Below.trans ?_ (Below.mono (by assumption) (by simp <;> omega)))))⟩
  have h3' : ¬ (3 : Int) < (k : Int) := by omega
  have h2 := and2 k (by omega)
  have hl := ofP_len r
  by_cases ho : k % 2 = 1
  · have hcat : ¬ 9223372036854775807 < 1 + (ofP r).length := by omega
    rw [ho] at h1
    have hfn : (f : Int).toNat = f := by omega
    have HL := Lib.hid hl
    clear hl
    by_cases hk2 : k < 2
    · rw [if_pos hk2] at h2
      rw [show unpack (c :: r) = (UInt8.ofNat f :: ofP r, false, 0) from by
        rw [HU.out, if_neg (by omega), if_pos ho]; simp; omega]
      have HO := Lib.hid ho
      clear ho
      go_enter Tryd.func95, Tryd.ntmps95
      go_wp2_with fail
      go_quiet (fail)
      go_wp2_with fail
      refine (nof_any r (by omega) _).mono ?_
      rintro e w1 ⟨rfl, hb⟩
      go_wp2_with fail
      go_ret3
      exact ⟨rfl, by (repeat (first | exact Below.refl _ _ | assumption | apply Below.drew | apply below_drewN | apply Below.allocS | (refine Below.setCell ?_ (by simp <;> omega) _) | (refine Below.alloc ?_ (by simp <;> omega) _) | (refine Below.trans ?_ (Below.mono (by assumption) (by simp <;> omega)))))⟩
    · rw [if_neg hk2] at h2
      rw [show unpack (c :: r) = (UInt8.ofNat f :: ofP r, true, 0) from by
        rw [HU.out, if_neg (by omega), if_pos ho]; simp; omega]
      have HO := Lib.hid ho
      clear ho
      go_enter Tryd.func95, Tryd.ntmps95
      go_wp2_with fail
      go_quiet (fail)
      go_wp2_with fail
      refine (nof_any r (by omega) _).mono ?_
      rintro e w1 ⟨rfl, hb⟩
      go_wp2_with fail
      go_ret3
      exact ⟨rfl, by (repeat (first | exact Below.refl _ _ | assumption | apply Below.drew | apply below_drewN | apply Below.allocS | (refine Below.setCell ?_ (by simp <;> omega) _) | (refine Below.alloc ?_ (by simp <;> omega) _) | (refine Below.trans ?_ (Below.mono (by assumption) (by simp <;> omega)))))⟩
  · have ho' : k % 2 = 0 := by omega
    rw [ho'] at h1
    have HL := Lib.hid hl
    clear hl
    by_cases hf0 : f = 0
    · subst hf0
      by_cases hk2 : k < 2
      · rw [if_pos hk2] at h2
        rw [show unpack (c :: r) = (ofP r, false, 0) from by
          rw [HU.out, if_neg (by omega), if_neg ho]; simp; omega]
        clear ho ho'
        go_enter Tryd.func95, Tryd.ntmps95
        go_wp2_with fail
        go_quiet (fail)
        go_wp2_with fail
        refine (nof_any r (by omega) _).mono ?_
        rintro e w1 ⟨rfl, hb⟩
        go_wp2_with fail
        go_ret3
        exact ⟨rfl, by (repeat (first | exact Below.refl _ _ | assumption | apply Below.drew | apply below_drewN | apply Below.allocS | (refine Below.setCell ?_ (by simp <;> omega) _) | (refine Below.alloc ?_ (by simp <;> omega) _) | (refine Below.trans ?_ (Below.mono (by assumption) (by simp <;> omega)))))⟩
      · rw [if_neg hk2] at h2
        rw [show unpack (c :: r) = (ofP r, true, 0) from by
          rw [HU.out, if_neg (by omega), if_neg ho]; simp; omega]
        clear ho ho'
        go_enter Tryd.func95, Tryd.ntmps95
        go_wp2_with fail
        go_quiet (fail)
        go_wp2_with fail
        refine (nof_any r (by omega) _).mono ?_
        rintro e w1 ⟨rfl, hb⟩
        go_wp2_with fail
        go_ret3
        exact ⟨rfl, by (repeat (first | exact Below.refl _ _ | assumption | apply Below.drew | apply below_drewN | apply Below.allocS | (refine Below.setCell ?_ (by simp <;> omega) _) | (refine Below.alloc ?_ (by simp <;> omega) _) | (refine Below.trans ?_ (Below.mono (by assumption) (by simp <;> omega)))))⟩
    · rw [show unpack (c :: r) = ([], false, 3) from by rw [HU.out, if_pos (.inr ⟨ho', hf0⟩)]]
      have hf1 : ((f : Int) == 0) = false := by simpa using hf0
      have hf2 : ((f : Int) != 0) = true := by simpa using hf0
      clear ho ho'
      go_enter Tryd.func95, Tryd.ntmps95
      go_wp2_with fail
      go_quiet (fail)
      go_wp2_with fail
      all_goals go_ret3
      all_goals exact ⟨rfl, by (repeat (first | exact Below.refl _ _ | assumption | apply Below.drew | apply below_drewN | apply Below.allocS | (refine Below.setCell ?_ (by simp <;> omega) _) | (refine Below.alloc ?_ (by simp <;> omega) _) | (refine Below.trans ?_ (Below.mono (by assumption) (by simp <;> omega)))))⟩

theorem nunpack_any (s : Bs) (hs : s.length ≤ 35184372088000) (w : World) :
    Calls Tryd.prog 95 #[.string ⟨List.toArray (s)⟩] w fun e w' => e = .returned (.tuple #[.string ⟨List.toArray ((unpack s).1)⟩, .bool (unpack s).2.1, .int .i64 ((unpack s).2.2)]) ∧ Below w.heap.size w w' := by
  cases s with
  | nil => exact nunpack_nil w
  | cons c r => exact nunpack_cons c r (by simp at hs; omega) w

end Go.Proofs.YtmldonbmjgelnaaDoor
