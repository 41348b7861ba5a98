/- Walks of the document's answer for layer 1: Unpack. -/
import Derived.Test.YtmldonbmjgelnaaRef1
set_option linter.unusedSimpArgs false
set_option linter.unusedVariables false
namespace Go.Proofs.Ytmldonbmjgelnaa
open Go.RowKit Pl

theorem runpack_nil (w : World) :
    Calls Try.prog 18 #[.string ⟨List.toArray ([])⟩] w fun e w' => e = .returned (.tuple #[.string ⟨List.toArray ([])⟩, .bool false, .int .i64 (3)]) ∧ Below w.heap.size w w' := by
  go_enter Try.func18, Try.ntmps18
  go_wp2_with fail
  go_ret3
  exact ⟨rfl, Below.refl _ _⟩

set_option maxRecDepth 100000 in
set_option maxHeartbeats 1000000 in
theorem runpack_cons (c : UInt8) (r : Bs) (hs : r.length ≤ 35184372088000) (w : World) :
    Calls Try.prog 18 #[.string ⟨List.toArray (c :: r)⟩] w fun e w' => e = .returned (.tuple #[.string ⟨List.toArray ((unpack (c :: r)).1)⟩, .bool (unpack (c :: r)).2.1, .int .i64 ((unpack (c :: r)).2.2)]) ∧ Below w.heap.size w w' := by
  have hcl := c.toNat_lt
  have hofp : ofP (c :: r) = UInt8.ofNat (c.toNat / 16) :: UInt8.ofNat (c.toNat % 16) :: ofP r := by simp [ofP]
  generalize hk : c.toNat / 16 = k at hofp
  generalize hf : c.toNat % 16 = f at hofp
  have HU : Hid (unpack (c :: r) = if 3 < k ∨ (k % 2 = 0 ∧ f ≠ 0) then ([], false, 3)
    else ((if k % 2 = 1 then UInt8.ofNat f :: ofP r else ofP r), decide (2 ≤ k), 0)) := Lib.hid (by simp only [unpack, hk, hf])
  have hk16 : k < 16 := by omega
  have hfl : f < 16 := by omega
  clear hk hf
  generalize hx : UInt8.ofNat k = x at hofp
  have hxk : (x.toNat : Int) = (k : Int) := by rw [← hx]; simp; omega
  have HX := Lib.hid hx
  generalize hy : UInt8.ofNat f = y at hofp HU
  have hyf : (y.toNat : Int) = (f : Int) := by rw [← hy]; simp; omega
  have HY := Lib.hid hy
  have HO := Lib.hid hofp
  clear hofp hx hy
  have hl := ofP_len r
  have HL := Lib.hid hl
  clear hl
  by_cases h3 : 3 < k
  · rw [show unpack (c :: r) = ([], false, 3) from by rw [HU.out, if_pos (.inl h3)]]
    have h3' : (3 : Int) < (k : Int) := by omega
    go_enter Try.func18, Try.ntmps18
    go_wp2_with fail
    refine (rof_any (c :: r) (by simp; omega) _).mono ?_
    rintro e w1 ⟨rfl, hb⟩
    rw [HO.out]
    go_wp2_with fail
    all_goals go_ret3
    exact ⟨by simp [*], hb⟩
  have h3' : ¬ (3 : Int) < (k : Int) := by omega
  by_cases ho : k % 2 = 1
  · have ho' : ((k : Int) % 2) = 1 := by omega
    by_cases hk2 : k < 2
    · have hk2' : decide ((2 : Int) ≤ (k : Int)) = false := by simp; omega
      rw [show unpack (c :: r) = (y :: ofP r, false, 0) from by
        rw [HU.out, if_neg (by omega), if_pos ho]; simp; omega]
      have HH := Lib.hid ho
      clear ho
      go_enter Try.func18, Try.ntmps18
      go_wp2_with fail
      refine (rof_any (c :: r) (by simp; omega) _).mono ?_
      rintro e w1 ⟨rfl, hb⟩
      rw [HO.out]
      go_wp2_with fail
      all_goals go_ret3
      exact ⟨by simp [*], hb⟩
    · have hk2' : decide ((2 : Int) ≤ (k : Int)) = true := by simp; omega
      rw [show unpack (c :: r) = (y :: ofP r, true, 0) from by
        rw [HU.out, if_neg (by omega), if_pos ho]; simp; omega]
      have HH := Lib.hid ho
      clear ho
      go_enter Try.func18, Try.ntmps18
      go_wp2_with fail
      refine (rof_any (c :: r) (by simp; omega) _).mono ?_
      rintro e w1 ⟨rfl, hb⟩
      rw [HO.out]
      go_wp2_with fail
      all_goals go_ret3
      exact ⟨by simp [*], hb⟩
  · have ho0 : k % 2 = 0 := by omega
    have ho' : ((k : Int) % 2) = 0 := by omega
    by_cases hf0 : f = 0
    · subst hf0
      by_cases hk2 : k < 2
      · have hk2' : decide ((2 : Int) ≤ (k : Int)) = false := by simp; omega
        rw [show unpack (c :: r) = (ofP r, false, 0) from by
          rw [HU.out, if_neg (by omega), if_neg ho]; simp; omega]
        clear ho ho0
        go_enter Try.func18, Try.ntmps18
        go_wp2_with fail
        refine (rof_any (c :: r) (by simp; omega) _).mono ?_
        rintro e w1 ⟨rfl, hb⟩
        rw [HO.out]
        go_wp2_with fail
        all_goals go_ret3
        exact ⟨by simp [*], hb⟩
      · have hk2' : decide ((2 : Int) ≤ (k : Int)) = true := by simp; omega
        rw [show unpack (c :: r) = (ofP r, true, 0) from by
          rw [HU.out, if_neg (by omega), if_neg ho]; simp; omega]
        clear ho ho0
        go_enter Try.func18, Try.ntmps18
        go_wp2_with fail
        refine (rof_any (c :: r) (by simp; omega) _).mono ?_
        rintro e w1 ⟨rfl, hb⟩
        rw [HO.out]
        go_wp2_with fail
        all_goals go_ret3
        exact ⟨by simp [*], hb⟩
    · rw [show unpack (c :: r) = ([], false, 3) from by rw [HU.out, if_pos (.inr ⟨ho0, hf0⟩)]]
      have hf1 : ((f : Int) == 0) = false := by simpa using hf0
      have hf2 : ((f : Int) != 0) = true := by simpa using hf0
      clear ho ho0
      go_enter Try.func18, Try.ntmps18
      go_wp2_with fail
      refine (rof_any (c :: r) (by simp; omega) _).mono ?_
      rintro e w1 ⟨rfl, hb⟩
      rw [HO.out]
      go_wp2_with fail
      all_goals go_ret3
      exact ⟨by simp [*], hb⟩

theorem runpack_any (s : Bs) (hs : s.length ≤ 35184372088000) (w : World) :
    Calls Try.prog 18 #[.string ⟨List.toArray (s)⟩] w fun e w' => e = .returned (.tuple #[.string ⟨List.toArray ((unpack s).1)⟩, .bool (unpack s).2.1, .int .i64 ((unpack s).2.2)]) ∧ Below w.heap.size w w' := by
  cases s with
  | nil => exact runpack_nil w
  | cons c r => exact runpack_cons c r (by simp at hs; omega) w

end Go.Proofs.Ytmldonbmjgelnaa
