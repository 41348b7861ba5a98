/- Walks of layer 1: Pack, Unpack. -/
import Derived.Test.YtmldonbmjgelnaaDoorNibble
set_option linter.unusedSimpArgs false
set_option linter.unusedVariables false
namespace Go.Proofs.YtmldonbmjgelnaaDoor
open Go.RowKit Pl

theorem npack_bad (s : Bs) (leaf : Bool) (hf : fit s = false) (hs : s.length ≤ 35184372088832) (w : World) :
    Calls Tryd.prog 63 #[.string ⟨List.toArray (s)⟩, .bool leaf] w fun e w' => e = .returned (.tuple #[.string ⟨List.toArray ([])⟩, .int .i64 (3)]) ∧ Below w.heap.size w w' := by
  go_enter Tryd.func63, Tryd.ntmps63
  go_wp2_with fail
  refine (nfit_any s (by omega) _).mono ?_
  rintro e w1 ⟨rfl, rfl⟩
  rw [hf]
  go_wp2_with fail
  go_ret2
  exact ⟨rfl, Below.refl _ _⟩

set_option maxRecDepth 100000 in
set_option maxHeartbeats 1000000 in
theorem npack_odd (s : Bs) (leaf : Bool) (hf : fit s = true) (ho : s.length % 2 = 1) (hs : s.length ≤ 35184372088832) (w : World) :
    Calls Tryd.prog 63 #[.string ⟨List.toArray (s)⟩, .bool leaf] w fun e w' => e = .returned (.tuple #[.string ⟨List.toArray (UInt8.ofNat ((if leaf then 32 else 0) + 16 + (s.headD 0).toNat) :: joined s.tail)⟩, .int .i64 (0)]) ∧ Below w.heap.size w w' := by
  obtain ⟨c, r, rfl⟩ : ∃ c r, s = c :: r := by
    cases s with
    | nil => simp at ho
    | cons c r => exact ⟨c, r, rfl⟩
  have hc := fit_at _ hf 0 (by simp)
  have hc15 : c.toNat ≤ 15 := hc
  have hfr : fit r = true := by
    have := List.all_eq_true.1 hf
    exact List.all_eq_true.2 (fun x hx => this x (by simp [hx]))
  have hl := joined_len r
  have hlr : r.length ≤ 35184372088832 := by simp at hs; omega
  have hcat : ¬ 9223372036854775807 < 1 + (joined r).length := by omega
  have HF := Lib.hid hf
  have HFR := Lib.hid hfr
  clear hf hfr hc hl
  have hodd : (((r.length : Int) + 1) % 2 == 1) = true := by simp at ho ⊢; omega
  have HO := Lib.hid ho
  clear ho
  have h16 : bits .or .u8 16 (c.toNat : Int) = 16 + (c.toNat : Int) := by
    have h := u8_or_hi 1 c.toNat (by omega) (by omega)
    simpa using h
  have h32 : bits .or .u8 32 (16 + (c.toNat : Int)) = 48 + (c.toNat : Int) := by
    have h := u8_or_nat 32 (16 + c.toNat) (by omega) (by omega)
    have h2 : 32 ||| (16 + c.toNat) = 48 + c.toNat := by
      rw [show (32 : Nat) = 2 ^ 5 * 1 from rfl, ← Nat.two_pow_add_eq_or_of_lt (by omega)]
      omega
    rw [h2] at h
    simpa using h
  have h00 : bits .or .u8 0 (16 + (c.toNat : Int)) = 16 + (c.toNat : Int) := by
    have h := u8_or_nat 0 (16 + c.toNat) (by omega) (by omega)
    simpa using h
  cases leaf
  · have hn : (16 + (c.toNat : Int)).toNat = 16 + c.toNat := by omega
    go_enter Tryd.func63, Tryd.ntmps63
    go_wp2_with fail
    refine (nfit_any (c :: r) (by simp; omega) _).mono ?_
    rintro e w1 ⟨rfl, rfl⟩
    rw [HF.out]
    go_wp2_with fail
    go_region_with (go_at_call 99; refine (njoined_any r HFR.out hlr _).mono ?_; rintro e w' ⟨rfl, hbx⟩; obtain ⟨hcx, hfx⟩ := bcell hbx)
    all_goals go_wp2_with fail
    all_goals go_ret2
    all_goals exact ⟨rfl, by (repeat (first | exact Below.refl _ _ | assumption | apply Below.drew | apply below_drewN | apply Below.allocS | (refine Below.setCell ?_ (by simp <;> omega) _) | (refine Below.alloc ?_ (by simp <;> omega) _) | (refine Below.trans ?_ (Below.mono (by assumption) (by simp <;> omega)))))⟩
  · have hn : (48 + (c.toNat : Int)).toNat = 48 + c.toNat := by omega
    go_enter Tryd.func63, Tryd.ntmps63
    go_wp2_with fail
    refine (nfit_any (c :: r) (by simp; omega) _).mono ?_
    rintro e w1 ⟨rfl, rfl⟩
    rw [HF.out]
    go_wp2_with fail
    go_region_with (go_at_call 99; refine (njoined_any r HFR.out hlr _).mono ?_; rintro e w' ⟨rfl, hbx⟩; obtain ⟨hcx, hfx⟩ := bcell hbx)
    all_goals go_wp2_with fail
    all_goals go_ret2
    all_goals exact ⟨rfl, by (repeat (first | exact Below.refl _ _ | assumption | apply Below.drew | apply below_drewN | apply Below.allocS | (refine Below.setCell ?_ (by simp <;> omega) _) | (refine Below.alloc ?_ (by simp <;> omega) _) | (refine Below.trans ?_ (Below.mono (by assumption) (by simp <;> omega)))))⟩

set_option maxRecDepth 100000 in
set_option maxHeartbeats 1000000 in
theorem npack_even (s : Bs) (leaf : Bool) (hf : fit s = true) (ho : s.length % 2 = 0) (hs : s.length ≤ 35184372088832) (w : World) :
    Calls Tryd.prog 63 #[.string ⟨List.toArray (s)⟩, .bool leaf] w fun e w' => e = .returned (.tuple #[.string ⟨List.toArray (UInt8.ofNat (if leaf then 32 else 0) :: joined s)⟩, .int .i64 (0)]) ∧ Below w.heap.size w w' := by
  have hl := joined_len s
  have hcat : ¬ 9223372036854775807 < 1 + (joined s).length := by omega
  have HF := Lib.hid hf
  clear hf hl
  have hodd : ((s.length : Int) % 2 == 1) = false := by simp; omega
  have HO := Lib.hid ho
  clear ho
  cases leaf
  all_goals
    go_enter Tryd.func63, Tryd.ntmps63
    go_wp2_with fail
    refine (nfit_any s (by omega) _).mono ?_
    rintro e w1 ⟨rfl, rfl⟩
    rw [HF.out]
    go_wp2_with fail
    go_region_with (go_at_call 99; refine (njoined_any s HF.out hs _).mono ?_; rintro e w' ⟨rfl, hbx⟩; obtain ⟨hcx, hfx⟩ := bcell hbx)
    all_goals go_wp2_with fail
    all_goals go_ret2
    all_goals exact ⟨rfl, by (repeat (first | exact Below.refl _ _ | assumption | apply Below.drew | apply below_drewN | apply Below.allocS | (refine Below.setCell ?_ (by simp <;> omega) _) | (refine Below.alloc ?_ (by simp <;> omega) _) | (refine Below.trans ?_ (Below.mono (by assumption) (by simp <;> omega)))))⟩

theorem npack_any (s : Bs) (leaf : Bool) (hs : s.length ≤ 35184372088832) (w : World) :
    Calls Tryd.prog 63 #[.string ⟨List.toArray (s)⟩, .bool leaf] w fun e w' => e = .returned (.tuple #[.string ⟨List.toArray ((pack s leaf).1)⟩, .int .i64 ((pack s leaf).2)]) ∧ Below w.heap.size w w' := by
  unfold pack
  cases hf : fit s with
  | false => rw [if_pos rfl]; exact npack_bad s leaf hf hs w
  | true =>
    rw [if_neg (by simp)]
    by_cases ho : s.length % 2 = 1
    · rw [if_pos ho]; exact npack_odd s leaf hf ho hs w
    · rw [if_neg ho]; exact npack_even s leaf hf (by omega) hs w

end Go.Proofs.YtmldonbmjgelnaaDoor
