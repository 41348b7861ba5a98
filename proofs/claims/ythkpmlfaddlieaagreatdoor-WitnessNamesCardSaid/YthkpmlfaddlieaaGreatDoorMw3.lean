/- Ref1, Ref2, Ref8, Writ8. -/
import Derived.Test.YthkpmlfaddlieaaGreatDoorMw2
set_option linter.unnecessarySimpa false
set_option linter.unusedSimpArgs false
set_option linter.unusedVariables false
set_option maxRecDepth 100000
set_option maxHeartbeats 32000000
namespace Go.Proofs.YthkpmlfaddlieaaGreatDoor
open Go.RowKit Pl
theorem rfit_any (s : Bs) (hs : s.length ≤ 9223372036854775807) (w : World) :
  Calls Tryz.prog 181 #[.string ⟨List.toArray s⟩] w fun e w' => e = .returned (.bool (fit s)) ∧ w = w' := by
 go_enter Tryz.func181, Tryz.ntmps181
 go_wp2_with fail
 go_loop [3] (fun s3 => ∃ i : Nat, i ≤ s.length ∧ s3 = .int .i64 i ∧ Hid (fit (s.take i) = true)) (fun s3 => s.length - (intOf s3).toNat)
 case atStart => exact ⟨0, by omega, rfl, Lib.hid (by simp [fit])⟩
 case round =>
  obtain ⟨i, hi, rfl, HF⟩ := hrel
  by_cases hlt : i < s.length
  ·have hbi := s[i].toNat_lt
   by_cases h15 : 15 < s[i].toNat
   ·have h15' : (15 : Int) < (s[i].toNat : Int) := by omega
    have HN := Lib.hid (fit_not s i hlt h15)
    go_wp2_with fail
    go_ret
    exact ⟨by rw [HN.out]; rfl, rfl⟩
   ·have h15' : ¬ (15 : Int) < (s[i].toNat : Int) := by omega
    go_wp2_with fail
    exact ⟨⟨i + 1, by omega, by go_num, Lib.hid (by rw [fit_take s i hlt, HF.out]; simp; omega)⟩, by simp [intOf] <;> omega⟩
  ·have hie : s.take i = s := List.take_of_length_le (by omega)
   have HN : Hid (fit s = true) := Lib.hid (by rw [← hie]; exact HF.out)
   clear hie
   go_wp2_with fail
   go_ret
   exact ⟨by rw [HN.out]; rfl, rfl⟩
theorem rof_any (s : Bs) (hs : s.length ≤ 35184372088832) (w : World) :
  Calls Tryz.prog 133 #[.string ⟨List.toArray s⟩] w fun e w' => e = .returned (.string ⟨List.toArray (ofP s)⟩) ∧ Below w.heap.size w w' := by
 go_enter Tryz.func133, Tryz.ntmps133
 go_wp2_with fail
 go_loopw [3, 4] (fun s3 s4 wr => ∃ i : Nat, i ≤ s.length ∧ s4 = .int .i64 i ∧ s3 = .string ⟨List.toArray (ofP (s.take i))⟩ ∧ Below w.heap.size w wr) (fun _ s4 _ => s.length - (intOf s4).toNat)
 case atStart => exact ⟨0, by omega, rfl, rfl, Below.refl _ _⟩
 case round =>
  obtain ⟨i, hi, rfl, rfl, hb⟩ := hrel
  rename_i wr
  by_cases hlt : i < s.length
  ·have hbi := s[i].toNat_lt
   have hol := ofP_len (s.take i)
   have htl : (s.take i).length = i := by simp; omega
   rw [htl] at hol
   have hcat : ¬ 9223372036854775807 < (ofP (s.take i)).length + 2 := by omega
   have HOS := Lib.hid (show ofP (s.take (i + 1)) = ofP (s.take i) ++ [UInt8.ofNat (s[i].toNat / 16), UInt8.ofNat (s[i].toNat % 16)] from by
    rw [List.take_succ_eq_append_getElem hlt, ofP_snoc])
   clear hol htl
   go_wp2_with fail
   go_region
   all_goals go_wp2_with fail
   exact ⟨⟨i + 1, by omega, by go_num, by rw [HOS.out, u8_div16, u8_mod16], by (repeat (first | exact Below.refl _ _ | assumption | apply Below.drew | apply below_drewN | apply Below.allocS | (refine Below.setCell ?_ (by simp <;> omega) _) | (refine Below.alloc ?_ (by simp <;> omega) _) | (refine Below.trans ?_ (Below.mono (by assumption) (by simp <;> omega)))))⟩, by simp [intOf]; omega⟩
  ·go_wp2_with fail
   go_ret
   refine ⟨?_, hb⟩
   rw [List.take_of_length_le (by omega)]; rfl
theorem rkey_bad (s : Bs) (hf : fit s = false) (hs : s.length ≤ 35184372088832) (w : World) :
  Calls Tryz.prog 182 #[.string ⟨List.toArray s⟩] w fun e w' => e = .returned (.tuple #[.string ⟨List.toArray []⟩, .int .i64 3]) ∧ Below w.heap.size w w' := by
 go_enter Tryz.func182, Tryz.ntmps182
 go_wp2_with fail
 refine (rfit_any s (by omega) _).mono ?_
 rintro e w1 ⟨rfl, rfl⟩
 rw [hf]
 go_wp2_with fail
 go_ret2
 exact ⟨rfl, Below.refl _ _⟩
theorem rkey_even (s : Bs) (hf : fit s = true) (hev : s.length % 2 = 0) (hs : s.length ≤ 35184372088832) (w : World) :
  Calls Tryz.prog 182 #[.string ⟨List.toArray s⟩] w fun e w' => e = .returned (.tuple #[.string ⟨List.toArray (joined s)⟩, .int .i64 0]) ∧ Below w.heap.size w w' := by
 have hodd : ((s.length : Int) % 2 != 0) = false := by simp; omega
 have HFit := Lib.hid hf
 have HEV := Lib.hid hev
 clear hf hev
 go_enter Tryz.func182, Tryz.ntmps182
 go_wp2_with fail
 refine (rfit_any s (by omega) _).mono ?_
 rintro e w1 ⟨rfl, rfl⟩
 rw [HFit.out]
 go_wp2_with fail
 go_loopw [4, 5] (fun s4 s5 wr => ∃ i : Nat, i ≤ s.length / 2 ∧ s5 = .int .i64 (2 * (i : Int)) ∧ s4 = .string ⟨List.toArray (joined (s.take (2 * i)))⟩ ∧ Below w.heap.size w wr) (fun _ s5 _ => s.length - (intOf s5).toNat)
 case atStart => exact ⟨0, by omega, rfl, rfl, Below.refl _ _⟩
 case round =>
  obtain ⟨i, hi, rfl, rfl, hb⟩ := hrel
  rename_i wr
  by_cases hlt : i < s.length / 2
  ·have h2 : 2 * i + 1 < s.length := by omega
   have ha := fit_at s HFit.out (2 * i) (by omega)
   have hb' := fit_at s HFit.out (2 * i + 1) h2
   have HJ := Lib.hid (joined_at s i h2)
   have hL : (joined (s.take (2 * i))).length = i := by rw [joined_len]; simp; omega
   have hcat : ¬ 9223372036854775807 < (joined (s.take (2 * i))).length + 1 := by omega
   clear hL
   have hai : (s[2 * i].toNat : Int) ≤ 15 := by omega
   have hbi : (s[2 * i + 1].toNat : Int) ≤ 15 := by omega
   have q1 : (0 : Int) ≤ 2 * (i : Int) := by omega
   have q2 : 2 * (i : Int) < (s.length : Int) := by omega
   have q3 : (0 : Int) ≤ 2 * (i : Int) + 1 := by omega
   have q4 : 2 * (i : Int) + 1 < (s.length : Int) := by omega
   have q5 : (2 * (i : Int)).toNat = 2 * i := by omega
   have q6 : (2 * (i : Int) + 1).toNat = 2 * i + 1 := by omega
   have q8 : IntKind.i64.wrap (2 * (i : Int) + 1) = 2 * (i : Int) + 1 := IntWalk.i64_in _ (by omega)
   have q9 : IntKind.u8.wrap ((s[2 * i].toNat : Int) * 16) = (s[2 * i].toNat : Int) * 16 := by rw [IntKind.wrap_u8']; omega
   have q10 : IntKind.u8.wrap ((s[2 * i].toNat : Int) * 16 + (s[2 * i + 1].toNat : Int)) = (s[2 * i].toNat : Int) * 16 + (s[2 * i + 1].toNat : Int) := by rw [IntKind.wrap_u8']; omega
   have q11 : ((s[2 * i].toNat : Int) * 16 + (s[2 * i + 1].toNat : Int)).toNat = s[2 * i].toNat * 16 + s[2 * i + 1].toNat := by omega
   go_wp2_with fail
   go_region
   all_goals go_wp2_with fail
   refine ⟨⟨i + 1, by omega, by go_num, by rw [show 2 * (i + 1) = 2 * i + 2 from by omega, HJ.out]; simp, by (repeat (first | exact Below.refl _ _ | assumption | apply Below.drew | apply below_drewN | apply Below.allocS | (refine Below.setCell ?_ (by simp <;> omega) _) | (refine Below.alloc ?_ (by simp <;> omega) _) | (refine Below.trans ?_ (Below.mono (by assumption) (by simp <;> omega)))))⟩, by simp [intOf]; omega⟩
  ·have hii : i = s.length / 2 := by omega
   have HJ : Hid (joined (s.take (2 * i)) = joined s) := Lib.hid (by rw [hii]; exact joined_all s)
   have hlt' : ¬ 2 * (i : Int) < (s.length : Int) := by have := HEV.out; omega
   clear hii
   rw [HJ.out]
   go_wp2_with fail
   go_ret2
   exact ⟨rfl, hb⟩
theorem fit_cons (c : UInt8) (s : Bs) : fit (c :: s) = (decide (c.toNat ≤ 15) && fit s) := by simp [fit]
theorem rpack_any (s : Bs) (leaf : Bool) (hs : s.length ≤ 35184372080000) (w : World) :
  Calls Tryz.prog 178 #[.string ⟨List.toArray s⟩, .bool leaf] w fun e w' => e = .returned (.tuple #[.string ⟨List.toArray ((pack s leaf).1)⟩, .int .i64 ((pack s leaf).2)]) ∧ Below w.heap.size w w' := by
 cases hf : fit s with
 | false =>
  rw [show pack s leaf = ([], 3) from by unfold pack; rw [if_pos hf]]
  go_enter Tryz.func178, Tryz.ntmps178
  go_wp2_with fail
  refine (rfit_any s (by omega) _).mono ?_
  rintro e w1 ⟨rfl, rfl⟩
  rw [hf]
  go_wp2_with fail
  go_ret2
  exact ⟨rfl, Below.refl _ _⟩
 | true =>
  have HF := Lib.hid hf
  clear hf
  have hc2 : ¬ 9223372036854775807 < 2 + s.length := by omega
  have hc1 : ¬ 9223372036854775807 < 1 + s.length := by omega
  by_cases ho : s.length % 2 = 1
  ·obtain ⟨c, r, rfl⟩ : ∃ c r, s = c :: r := by
    cases s with
    | nil => simp at ho
    | cons c r => exact ⟨c, r, rfl⟩
   have hc15 : c.toNat ≤ 15 := fit_at _ HF.out 0 (by simp)
   have hev : ∀ k : UInt8, (k :: c :: r).length % 2 = 0 := by intro k; simp at ho ⊢; omega
   have hft : ∀ k : UInt8, k.toNat ≤ 15 → fit (k :: c :: r) = true := by intro k hk; rw [fit_cons, HF.out]; simp [hk]
   rw [show pack (c :: r) leaf = (UInt8.ofNat ((if leaf then 32 else 0) + 16 + c.toNat) :: joined r, 0) from by unfold pack; rw [if_neg (by rw [HF.out]; simp), if_pos ho]; rfl]
   have ho' : (((r.length : Int) + 1) % 2) = 1 := by simp at ho; omega
   have HO := Lib.hid ho
   clear ho
   cases leaf
   ·have hres : joined ((1 : UInt8) :: c :: r) = UInt8.ofNat (0 + 16 + c.toNat) :: joined r := by
     simp only [joined]
     congr 1
    go_enter Tryz.func178, Tryz.ntmps178
    go_wp2_with fail
    refine (rfit_any (c :: r) (by simp at hs ⊢; omega) _).mono ?_
    rintro e w1 ⟨rfl, rfl⟩
    rw [HF.out]
    go_wp2_with fail
    refine (rkey_even (1 :: c :: r) (hft 1 (by decide)) (hev 1) (by simp at hs ⊢; omega) _).mono ?_
    rintro e w2 ⟨rfl, hb2⟩
    rw [hres]
    clear hres
    go_wp2_with fail
    go_ret2
    exact ⟨rfl, by (repeat (first | exact Below.refl _ _ | assumption | apply Below.drew | apply below_drewN | apply Below.allocS | (refine Below.setCell ?_ (by simp <;> omega) _) | (refine Below.alloc ?_ (by simp <;> omega) _) | (refine Below.trans ?_ (Below.mono (by assumption) (by simp <;> omega)))))⟩
   ·have hres : joined ((3 : UInt8) :: c :: r) = UInt8.ofNat (32 + 16 + c.toNat) :: joined r := by
     simp only [joined]
     congr 1
    go_enter Tryz.func178, Tryz.ntmps178
    go_wp2_with fail
    refine (rfit_any (c :: r) (by simp at hs ⊢; omega) _).mono ?_
    rintro e w1 ⟨rfl, rfl⟩
    rw [HF.out]
    go_wp2_with fail
    refine (rkey_even (3 :: c :: r) (hft 3 (by decide)) (hev 3) (by simp at hs ⊢; omega) _).mono ?_
    rintro e w2 ⟨rfl, hb2⟩
    rw [hres]
    clear hres
    go_wp2_with fail
    go_ret2
    exact ⟨rfl, by (repeat (first | exact Below.refl _ _ | assumption | apply Below.drew | apply below_drewN | apply Below.allocS | (refine Below.setCell ?_ (by simp <;> omega) _) | (refine Below.alloc ?_ (by simp <;> omega) _) | (refine Below.trans ?_ (Below.mono (by assumption) (by simp <;> omega)))))⟩
  ·have hev : ∀ k j : UInt8, (k :: j :: s).length % 2 = 0 := by intro k j; simp; omega
   have hft : ∀ k : UInt8, k.toNat ≤ 15 → fit (k :: 0 :: s) = true := by intro k hk; rw [fit_cons, fit_cons, HF.out]; simp [hk]
   rw [show pack s leaf = (UInt8.ofNat (if leaf then 32 else 0) :: joined s, 0) from by unfold pack; rw [if_neg (by rw [HF.out]; simp), if_neg ho]]
   have ho' : ((s.length : Int) % 2) = 0 := by omega
   have HO := Lib.hid ho
   clear ho
   cases leaf
   ·have hres : joined ((0 : UInt8) :: 0 :: s) = UInt8.ofNat 0 :: joined s := by
     simp only [joined]
     congr 1
    go_enter Tryz.func178, Tryz.ntmps178
    go_wp2_with fail
    refine (rfit_any s (by omega) _).mono ?_
    rintro e w1 ⟨rfl, rfl⟩
    rw [HF.out]
    go_wp2_with fail
    refine (rkey_even (0 :: 0 :: s) (hft 0 (by decide)) (hev 0 0) (by simp; omega) _).mono ?_
    rintro e w2 ⟨rfl, hb2⟩
    rw [hres]
    clear hres
    go_wp2_with fail
    go_ret2
    exact ⟨rfl, by (repeat (first | exact Below.refl _ _ | assumption | apply Below.drew | apply below_drewN | apply Below.allocS | (refine Below.setCell ?_ (by simp <;> omega) _) | (refine Below.alloc ?_ (by simp <;> omega) _) | (refine Below.trans ?_ (Below.mono (by assumption) (by simp <;> omega)))))⟩
   ·have hres : joined ((2 : UInt8) :: 0 :: s) = UInt8.ofNat 32 :: joined s := by
     simp only [joined]
     congr 1
    go_enter Tryz.func178, Tryz.ntmps178
    go_wp2_with fail
    refine (rfit_any s (by omega) _).mono ?_
    rintro e w1 ⟨rfl, rfl⟩
    rw [HF.out]
    go_wp2_with fail
    refine (rkey_even (2 :: 0 :: s) (hft 2 (by decide)) (hev 2 0) (by simp; omega) _).mono ?_
    rintro e w2 ⟨rfl, hb2⟩
    rw [hres]
    clear hres
    go_wp2_with fail
    go_ret2
    exact ⟨rfl, by (repeat (first | exact Below.refl _ _ | assumption | apply Below.drew | apply below_drewN | apply Below.allocS | (refine Below.setCell ?_ (by simp <;> omega) _) | (refine Below.alloc ?_ (by simp <;> omega) _) | (refine Below.trans ?_ (Below.mono (by assumption) (by simp <;> omega)))))⟩
end Go.Proofs.YthkpmlfaddlieaaGreatDoor
namespace Go.Proofs.YthkpmlfaddlieaaGreatDoor
open Go.RowKit Pl
theorem rNumber_any (n : Nat) (hn : n < 9223372036854775808) (w : World) :
  Calls Tryz.prog 104 #[.int .i64 n] w fun e w' => e = .returned (.string ⟨List.toArray (num n)⟩) ∧ Below w.heap.size w w' := by
 go_enter Tryz.func104, Tryz.ntmps104
 go_wp2_with fail
 go_loopw [0, 3] (fun s0 s3 wr => ∃ (k m : Nat) (d : Bs), d.length + k = 8 ∧ m < 256 ^ k ∧ m < 9223372036854775808 ∧ Hid (digs 8 n = digs k m ++ d) ∧ s0 = .int .i64 m ∧ s3 = .string ⟨List.toArray d⟩ ∧ Below w.heap.size w wr)
  (fun s0 _ _ => (intOf s0).toNat)
 case atStart =>
  exact ⟨8, n, [], rfl, by omega, hn, Lib.hid (by simp), rfl, rfl, Below.refl _ _⟩
 case round =>
  obtain ⟨k, m, d, hd, hm, hm2, HD, rfl, rfl, hb⟩ := hrel
  have hcat : ¬ 9223372036854775807 < 1 + d.length := by omega
  by_cases h0 : 0 < m
  ·obtain ⟨j, rfl⟩ : ∃ j, k = j + 1 := by
    rcases Nat.eq_zero_or_pos k with h | h
    ·subst h; omega
    ·exact ⟨k - 1, by omega⟩
   go_wp2_with fail
   refine ⟨⟨j, m / 256, UInt8.ofNat (m % 256) :: d, by simp at hd ⊢; omega, by rw [Nat.pow_succ] at hm; omega, by omega, ?_, by go_num, ?_, by (repeat (first | exact Below.refl _ _ | assumption | apply Below.drew | apply below_drewN | apply Below.allocS | (refine Below.setCell ?_ (by simp <;> omega) _) | (refine Below.alloc ?_ (by simp <;> omega) _) | (refine Below.trans ?_ (Below.mono (by assumption) (by simp <;> omega)))))⟩, by simp [intOf]; omega⟩
   ·refine Lib.hid ?_
    rw [HD.out, digs_step _ _ h0, List.append_assoc]; rfl
   ·refine str_eq ?_
    simp
  ·have hm0 : m = 0 := by omega
   subst hm0
   have hfin : num n = UInt8.ofNat d.length :: d := by
    unfold num
    rw [HD.out, digs_zero, List.nil_append]
   have HF := Lib.hid hfin
   clear hfin
   have hdl : (d.length : Int) ≤ 8 := by omega
   go_wp2_with fail
   go_ret
   exact ⟨by rw [HF.out]; rfl, by (repeat (first | exact Below.refl _ _ | assumption | apply Below.drew | apply below_drewN | apply Below.allocS | (refine Below.setCell ?_ (by simp <;> omega) _) | (refine Below.alloc ?_ (by simp <;> omega) _) | (refine Below.trans ?_ (Below.mono (by assumption) (by simp <;> omega)))))⟩
theorem rText_any (s : Bs) (hs : s.length < 9223372036854775000) (w : World) :
  Calls Tryz.prog 106 #[.string ⟨List.toArray s⟩] w fun e w' => e = .returned (.string ⟨List.toArray (text s)⟩) ∧ Below w.heap.size w w' := by
 have hl := num_len s.length
 have hcat : ¬ 9223372036854775807 < (num s.length).length + s.length := by omega
 go_enter Tryz.func106, Tryz.ntmps106
 go_wp2_with fail
 refine (rNumber_any s.length (by omega) _).mono ?_
 rintro e w1 ⟨rfl, hb⟩
 go_wp2_with fail
 go_ret
 exact ⟨rfl, hb⟩
end Go.Proofs.YthkpmlfaddlieaaGreatDoor
namespace Go.Proofs.YthkpmlfaddlieaaGreatDoor
open Go.RowKit Pl
theorem rkids_any (kind : Int) (path val : Bs) (kid : Nat → Bs) (w : World) :
  Calls Tryz.prog 183 #[.agg (nd kind path val kid).toArray] w fun e w' => ∃ (x : Option Addr) (cap : Nat), e = .returned (.slice x (kidsF kid).length cap) ∧ SRow w' (w.heap.size + 1) (.slice x (kidsF kid).length cap) (kidsF kid) ∧ Below w.heap.size w w' := by
 have hB0 := Blk.new w (nd kind path val kid).toArray 173
 have hb0 : Below w.heap.size w (w.alloc (.cells (nd kind path val kid).toArray 173)) := Below.allocS (Below.refl _ _) _
 have hs0 : (w.alloc (.cells (nd kind path val kid).toArray 173)).heap.size = w.heap.size + 1 := by simp
 go_enter Tryz.func183, Tryz.ntmps183
 go_wp2_with fail
 generalize w.alloc (.cells (nd kind path val kid).toArray 173) = W0 at *
 go_loopw [3, 4] (fun s3 s4 wr => ∃ k : Nat, k ≤ 16 ∧ s4 = .int .i64 k ∧ SRow wr (w.heap.size + 1) s3 (kidsTo kid k) ∧ Below W0.heap.size W0 wr) (fun _ s4 _ => 16 - (intOf s4).toNat)
 case atStart => exact ⟨0, by omega, rfl, SRow.nil _ _, Below.refl _ _⟩
 case round =>
  obtain ⟨k, hk, rfl, hS, hb⟩ := hrel
  rename_i wr
  have hB := hB0.keep hb
  have hbz := hB.lt
  by_cases hlt : k < 16
  ·have hki := blk_kid hB k hlt
   have hfr := hB.froz
   have hlt' : (k : Int) < 16 := by omega
   have hkl := kidsTo_len kid k
   have HKS := Lib.hid (kidsTo_succ kid k)
   by_cases he : kid k = []
   ·have HK : Hid (kidsTo kid (k + 1) = kidsTo kid k) := Lib.hid (by rw [HKS.out, if_pos he]; simp)
    rw [he] at hki
    clear he
    go_wp2_with fail
    exact ⟨⟨k + 1, by omega, by go_num, by rw [HK.out]; exact hS, hb⟩, by simp [intOf]; omega⟩
   ·have HK : Hid (kidsTo kid (k + 1) = kidsTo kid k ++ [kid k]) := Lib.hid (by rw [HKS.out, if_neg he])
    have he1 : (kid k).isEmpty = false := by simpa using he
    generalize hx : kid k = x at *
    clear he
    go_wp2_with (at_builtin; refine wpList_appS rfl (.tmp 14) (.tmp 19) rfl (w.heap.size + 1) _ (kidsTo kid k) rfl (hS.alloc _) wr.heap.size 0 1 1 [x] rfl rfl (ssrc1 _ _ _) (by omega) (by have := hb.size; simp; omega) ?_; rintro v' w2 hS2 hb2)
    exact ⟨⟨k + 1, by omega, by go_num, by rw [HK.out]; exact hS2, (Below.allocS hb _).trans (by rw [hs0]; exact hb2)⟩, by simp [intOf]; omega⟩
  ·have hke : k = 16 := by omega
   subst hke
   go_wp2_with fail
   go_ret
   obtain ⟨x, cap, hv⟩ := hS.form
   rw [hv] at hS
   exact ⟨x, cap, congrArg Ending.returned hv, hS, hb0.trans (hb.mono (by omega))⟩
theorem rfine_any (kind : Int) (path val : Bs) (kid : Nat → Bs) (hp : path.length ≤ 9223372036854775807) (w : World) :
  Calls Tryz.prog 179 #[.agg (nd kind path val kid).toArray] w fun e w' => e = .returned (.bool (fineR kind path val kid)) ∧ Below w.heap.size w w' := by
 generalize hr : fineR kind path val kid = r
 unfold fineR at hr
 have HR := Lib.hid hr
 clear hr
 have hB0 := Blk.new w (nd kind path val kid).toArray 173
 go_enter Tryz.func179, Tryz.ntmps179
 go_wp2_with (refine wpList_node rfl (.tmp 1) rfl rfl hB0 ?_)
 refine (rkids_any kind path val kid _).mono ?_
 rintro e w1 ⟨va, vc, rfl, hS, hb⟩
 have hB : Blk w1 w.heap.size (nd kind path val kid).toArray := hB0.keep hb
 have hb0 : Below w.heap.size w w1 := (Below.allocS (Below.refl _ _) _).trans (hb.mono (by simp))
 clear hb hB0
 have hkl := kidsTo_len kid 16
 have hkl' : (kidsF kid).length ≤ 16 := hkl
 clear hkl
 obtain ⟨b1, b2, b3⟩ := id hB
 generalize hks : kidsF kid = ks at *
 go_wp2_with fail
 go_loop [4] (fun s4 => ∃ i : Nat, i ≤ ks.length ∧ s4 = .int .i64 i ∧ Hid (∀ j, j < i → (ks.getD j []).length = 32)) (fun s4 => ks.length - (intOf s4).toNat)
 case atStart => exact ⟨0, by omega, rfl, Lib.hid (fun j hj => by omega)⟩
 case round =>
  obtain ⟨i, hi, rfl, HA⟩ := hrel
  by_cases hlt : i < ks.length
  ·rcases hS.cells with ⟨hx, hx2⟩ | ⟨g, cap, hx, hgb, hgl, hn, hm, hcl, hf⟩
   ·rw [hx2] at hlt; cases hlt
   obtain ⟨rfl, rfl⟩ : va = some ⟨g, 0, none⟩ ∧ vc = cap := by
    injection hx with h1 h2 h3
    exact ⟨h1, h3⟩
   have hci := hcl i hlt
   clear hcl hx
   by_cases h32 : (ks.getD i []).length = 32
   ·have HN : Hid (∀ j, j < i + 1 → (ks.getD j []).length = 32) := Lib.hid (fun j hj => by
     rcases Nat.lt_or_ge j i with h | h
     ·exact HA.out j h
     ·have : j = i := by omega
      subst this; exact h32)
    generalize ks.getD i [] = x at hci h32
    have hbb : ((x.length : Int) != 32) = false := by simp; omega
    clear h32
    go_wp2_with fail
    exact ⟨⟨i + 1, by omega, by go_num, HN⟩, by simp [intOf]; omega⟩
   ·have HN : Hid (r = false) := Lib.hid (by rw [← HR.out, if_pos (all32_not ks i hlt h32)])
    generalize ks.getD i [] = x at hci h32
    have hbb : ((x.length : Int) != 32) = true := by simp; omega
    clear h32
    go_wp2_with fail
    go_ret
    exact ⟨by rw [HN.out]; rfl, hb0⟩
  ·have hall : all32 ks = true := by
    unfold all32
    rw [List.all_eq_true]
    intro s hs
    obtain ⟨j, hj, rfl⟩ := List.getElem_of_mem hs
    have := HA.out j (by omega)
    simpa [List.getD, List.getElem?_eq_getElem hj] using this
   have hr1 := HR.out
   rw [if_neg (by simp [hall])] at hr1
   have HR1 := Lib.hid hr1
   clear hr1 HR HA hall hS
   have hie : i = ks.length := by omega
   subst hie
   go_wp2_with fail
   refine (rfit_any path hp _).mono ?_
   rintro e w2 ⟨rfl, rfl⟩
   cases hf : fit path
   ·have HN : Hid (r = false) := Lib.hid (by rw [← HR1.out, if_pos (.inl hf)])
    go_wp2_with fail
    all_goals (go_ret; exact ⟨by rw [HN.out]; rfl, hb0⟩)
   ·by_cases h16 : 16 < path.length
    ·have HN : Hid (r = false) := Lib.hid (by rw [← HR1.out, if_pos (.inr (.inl h16))])
     have hd : decide ((16 : Int) < (path.length : Int)) = true := by simp; omega
     go_wp2_with fail
     all_goals (go_ret; exact ⟨by rw [HN.out]; rfl, hb0⟩)
    ·have hd : decide ((16 : Int) < (path.length : Int)) = false := by simp; omega
     by_cases h32 : 32 < val.length
     ·have HN : Hid (r = false) := Lib.hid (by rw [← HR1.out, if_pos (.inr (.inr h32))])
      have hd2 : decide ((32 : Int) < (val.length : Int)) = true := by simp; omega
      go_wp2_with fail
      all_goals (go_ret; exact ⟨by rw [HN.out]; rfl, hb0⟩)
     ·have hd2 : decide ((32 : Int) < (val.length : Int)) = false := by simp; omega
      have hr2 := HR1.out
      rw [if_neg (by simp [hf, h16, h32])] at hr2
      have HR2 := Lib.hid hr2
      clear hr2 HR1 hf
      by_cases k1 : kind = 1
      ·have HN : Hid (r = (decide (ks.length = 0) && !val.isEmpty)) := Lib.hid (by rw [← HR2.out, if_pos k1])
       subst k1
       by_cases hl : ks.length = 0
       ·have hl1 : ((ks.length : Int) == 0) = true := by rw [hl]; rfl
        go_wp2_with fail
        all_goals (go_ret; exact ⟨by rw [HN.out]; simp [hl], hb0⟩)
       ·have hl1 : ((ks.length : Int) == 0) = false := by rw [beq_eq_false_iff_ne]; omega
        go_wp2_with fail
        all_goals (go_ret; exact ⟨by rw [HN.out]; simp [hl], hb0⟩)
      ·by_cases k2 : kind = 2
       ·have HN : Hid (r = (decide (ks.length = 1) && !(kid 0).isEmpty && decide (1 ≤ path.length) && val.isEmpty)) := Lib.hid (by rw [← HR2.out, if_neg k1, if_pos k2])
        subst k2
        clear HR2 k1 h16 h32
        by_cases hl : ks.length = 1
        ·have hl1 : ((ks.length : Int) == 1) = true := by rw [hl]; rfl
         cases h0 : (kid 0).isEmpty
         ·have h0' : ¬ kid 0 = [] := by simpa using h0
          by_cases hp1 : 1 ≤ path.length
          ·have hp1' : decide ((1 : Int) ≤ (path.length : Int)) = true := by simp; omega
           cases hv : val.isEmpty
           ·have hv' : ¬ val = [] := by simpa using hv
            go_wp2_with fail
            all_goals (go_ret; exact ⟨ret_bool (by rw [HN.out]; simp [*]), hb0⟩)
           ·have hv' : val = [] := by simpa using hv
            subst hv'
            go_wp2_with fail
            all_goals (go_ret; exact ⟨ret_bool (by rw [HN.out]; simp [*]), hb0⟩)
          ·have hp1' : decide ((1 : Int) ≤ (path.length : Int)) = false := by simp; omega
           go_wp2_with fail
           all_goals (go_ret; exact ⟨ret_bool (by rw [HN.out]; simp [*]), hb0⟩)
         ·have h0' : kid 0 = [] := by simpa using h0
          go_wp2_with fail
          all_goals (go_ret; exact ⟨ret_bool (by rw [HN.out]; simp [*]), hb0⟩)
        ·have hl1 : ((ks.length : Int) == 1) = false := by rw [beq_eq_false_iff_ne]; omega
         go_wp2_with fail
         all_goals (go_ret; exact ⟨ret_bool (by rw [HN.out]; simp [*]), hb0⟩)
       ·by_cases k3 : kind = 3
        ·have HN : Hid (r = (decide (path.length = 0) && (decide (2 ≤ ks.length) || decide (ks.length = 1) && !val.isEmpty))) := Lib.hid (by rw [← HR2.out, if_neg k1, if_neg k2, if_pos k3])
         subst k3
         clear HR2 k1 k2 h16 h32
         by_cases hp0 : path.length = 0
         ·have hp0' : ((path.length : Int) == 0) = true := by rw [hp0]; rfl
          by_cases hl : 2 ≤ ks.length
          ·have hl1 : decide ((2 : Int) ≤ (ks.length : Int)) = true := by simp; omega
           go_wp2_with fail
           all_goals (go_ret; exact ⟨ret_bool (by rw [HN.out]; simp [*]), hb0⟩)
          ·have hl1 : decide ((2 : Int) ≤ (ks.length : Int)) = false := by simp; omega
           by_cases hl2 : ks.length = 1
           ·have hl3 : ((ks.length : Int) == 1) = true := by rw [hl2]; rfl
            cases hv : val.isEmpty
            ·have hv' : ¬ val = [] := by simpa using hv
             go_wp2_with fail
             all_goals (go_ret; exact ⟨ret_bool (by rw [HN.out]; simp [*]), hb0⟩)
            ·have hv' : val = [] := by simpa using hv
             subst hv'
             go_wp2_with fail
             all_goals (go_ret; exact ⟨ret_bool (by rw [HN.out]; simp [*]), hb0⟩)
           ·have hl3 : ((ks.length : Int) == 1) = false := by rw [beq_eq_false_iff_ne]; omega
            go_wp2_with fail
            all_goals (go_ret; exact ⟨ret_bool (by rw [HN.out]; simp [*]), hb0⟩)
         ·have hp0' : ((path.length : Int) == 0) = false := by rw [beq_eq_false_iff_ne]; omega
          go_wp2_with fail
          all_goals (go_ret; exact ⟨ret_bool (by rw [HN.out]; simp [*]), hb0⟩)
        ·have HN : Hid (r = false) := Lib.hid (by rw [← HR2.out, if_neg k1, if_neg k2, if_neg k3])
         have k1b : (kind == 1) = false := by simpa using k1
         have k2b : (kind == 2) = false := by simpa using k2
         have k3b : (kind == 3) = false := by simpa using k3
         clear HR2 k1 k2 k3
         go_wp2_with fail
         all_goals (go_ret; exact ⟨ret_bool (by rw [HN.out]), hb0⟩)
end Go.Proofs.YthkpmlfaddlieaaGreatDoor
namespace Go.Proofs.YthkpmlfaddlieaaGreatDoor
open Go.RowKit Pl
theorem writ_leaf (path val : Bs) (kid : Nat → Bs) (hpl : path.length ≤ 16) (hvl : val.length ≤ 32) (w : World) :
  Calls Tryz.prog 170 #[.agg (nd 1 path val kid).toArray] w fun e w' => e = .returned (.string ⟨List.toArray (1 :: (text (pack path true).1 ++ text val))⟩) ∧ Below w.heap.size w w' := by
 have h1 := text_len val
 have h2 := text_len (pack path true).1
 have h3 := pack_len path true
 have hB0 := Blk.new w (nd 1 path val kid).toArray 173
 have hb0 : Below w.heap.size w (w.alloc (.cells (nd 1 path val kid).toArray 173)) := Below.allocS (Below.refl _ _) _
 obtain ⟨b1, b2, b3⟩ := id hB0
 go_enter Tryz.func170, Tryz.ntmps170
 go_wp2_with fail
 refine (rpack_any path true (by omega) _).mono ?_
 rintro e w2 ⟨rfl, hb2⟩
 have hb3 : Below w.heap.size w w2 := (Below.allocS hb0 _).trans (hb2.mono (by have := hb0.size; simp; omega))
 have hB2 : Blk w2 w.heap.size (nd 1 path val kid).toArray := (hB0.alloc _).keep hb2
 clear hb2 hB0 hb0 b1 b2 b3
 obtain ⟨b1, b2, b3⟩ := id hB2
 go_wp2_with fail
 refine (rText_any (pack path true).1 (by omega) _).mono ?_
 rintro e w3 ⟨rfl, hb4⟩
 have hb5 : Below w.heap.size w w3 := hb3.trans (hb4.mono hb3.size)
 have hB3 : Blk w3 w.heap.size (nd 1 path val kid).toArray := hB2.keep hb4
 clear hb4 hB2 b1 b2 b3
 obtain ⟨b1, b2, b3⟩ := id hB3
 have hcat : ¬ 9223372036854775807 < 1 + (text (pack path true).1).length := by omega
 go_wp2_with fail
 refine (rText_any val (by omega) _).mono ?_
 rintro e w4 ⟨rfl, hb6⟩
 have hcat2 : ¬ 9223372036854775807 < (text (pack path true).1).length + 1 + (text val).length := by omega
 go_wp2_with fail
 all_goals (go_ret; exact ⟨by simp, hb5.trans (hb6.mono hb5.size)⟩)
theorem writ_ext (path val : Bs) (kid : Nat → Bs) (hpl : path.length ≤ 16) (hkl : (kid 0).length ≤ 32) (w : World) :
  Calls Tryz.prog 170 #[.agg (nd 2 path val kid).toArray] w fun e w' => e = .returned (.string ⟨List.toArray (2 :: (text (pack path false).1 ++ kid 0))⟩) ∧ Below w.heap.size w w' := by
 have h2 := text_len (pack path false).1
 have h3 := pack_len path false
 have hB0 := Blk.new w (nd 2 path val kid).toArray 173
 have hb0 : Below w.heap.size w (w.alloc (.cells (nd 2 path val kid).toArray 173)) := Below.allocS (Below.refl _ _) _
 obtain ⟨b1, b2, b3⟩ := id hB0
 go_enter Tryz.func170, Tryz.ntmps170
 go_wp2_with fail
 refine (rpack_any path false (by omega) _).mono ?_
 rintro e w2 ⟨rfl, hb2⟩
 have hb3 : Below w.heap.size w w2 := (Below.allocS hb0 _).trans (hb2.mono (by have := hb0.size; simp; omega))
 have hB2 : Blk w2 w.heap.size (nd 2 path val kid).toArray := (hB0.alloc _).keep hb2
 clear hb2 hB0 hb0 b1 b2 b3
 obtain ⟨b1, b2, b3⟩ := id hB2
 go_wp2_with fail
 refine (rText_any (pack path false).1 (by omega) _).mono ?_
 rintro e w3 ⟨rfl, hb4⟩
 have hb5 : Below w.heap.size w w3 := hb3.trans (hb4.mono hb3.size)
 have hB3 : Blk w3 w.heap.size (nd 2 path val kid).toArray := hB2.keep hb4
 clear hb4 hB2 b1 b2 b3
 obtain ⟨b1, b2, b3⟩ := id hB3
 have hcat : ¬ 9223372036854775807 < 1 + (text (pack path false).1).length := by omega
 have hcat2 : ¬ 9223372036854775807 < (text (pack path false).1).length + 1 + (kid 0).length := by omega
 go_wp2_with fail
 all_goals (go_ret; exact ⟨by simp, hb5⟩)
theorem flat_take (kid : Nat → Bs) (ha : all32 (kidsF kid) = true) (k : Nat) (hk : k ≤ 16) : (kidsTo kid k).flatten.length ≤ 512 := by
 have h : ∃ m, kidsTo kid k ++ m = kidsF kid := by
  have : ∀ j, ∃ m, kidsTo kid k ++ m = kidsTo kid (k + j) := by
   intro j
   induction j with
   | zero => exact ⟨[], by simp⟩
   | succ j ih =>
    obtain ⟨m, hm⟩ := ih
    exact ⟨m ++ (if kid (k + j) = [] then [] else [kid (k + j)]), by rw [← List.append_assoc, hm, ← Nat.add_assoc, kidsTo_succ]⟩
  obtain ⟨m, hm⟩ := this (16 - k)
  exact ⟨m, by rw [hm, show k + (16 - k) = 16 from by omega]; rfl⟩
 obtain ⟨m, hm⟩ := h
 have h2 := flat_len _ ha
 have h3 : (kidsF kid).length ≤ 16 := kidsTo_len kid 16
 have h4 : (kidsF kid).flatten.length = (kidsTo kid k).flatten.length + m.flatten.length := by
  rw [← hm, List.flatten_append, List.length_append]
 omega
theorem writ_branch (path val : Bs) (kid : Nat → Bs) (ha : all32 (kidsF kid) = true) (hvl : val.length ≤ 32) (w : World) :
  Calls Tryz.prog 170 #[.agg (nd 3 path val kid).toArray] w fun e w' => e = .returned (.string ⟨List.toArray ([3, UInt8.ofNat (hiK kid), UInt8.ofNat (loK kid)] ++ (kidsF kid).flatten ++ text val)⟩) ∧ Below w.heap.size w w' := by
 have h1 := text_len val
 have HF : Hid (∀ k, k ≤ 16 → (kidsTo kid k).flatten.length ≤ 512) := Lib.hid (flat_take kid ha)
 clear ha
 have hB0 := Blk.new w (nd 3 path val kid).toArray 173
 have hb0 : Below w.heap.size w (w.alloc (.cells (nd 3 path val kid).toArray 173)) := Below.allocS (Below.refl _ _) _
 obtain ⟨b1, b2, b3⟩ := id hB0
 go_enter Tryz.func170, Tryz.ntmps170
 go_wp2_with fail
 have hB1 := hB0.alloc (.cells #[.int .u8 3] 5)
 have hb1 := Below.allocS hb0 (.cells #[.int .u8 3] 5)
 clear b1 b2 b3 hB0 hb0
 go_loop [4, 5, 6, 7] (fun s4 s5 s6 s7 => ∃ k : Nat, k ≤ 16 ∧ s7 = .int .i64 k ∧ s4 = .int .i64 (hiT kid k) ∧ s5 = .int .i64 (loT kid k) ∧ s6 = .string ⟨List.toArray ((kidsTo kid k).flatten)⟩) (fun _ _ _ s7 => 16 - (intOf s7).toNat)
 case atStart => exact ⟨0, by omega, rfl, rfl, rfl, by simp [kidsTo]⟩
 case round =>
  obtain ⟨k, hk, rfl, rfl, rfl, rfl⟩ := hrel
  by_cases hlt : k < 16
  ·have hki := blk_kid hB1 k hlt
   have hfr := hB1.froz
   have hh := hiT_lt kid k
   have hl := loT_lt kid k hk
   have hfk := HF.out k hk
   have hfk2 := HF.out (k + 1) (by omega)
   rw [flat_succ, List.length_append] at hfk2
   have HFS := Lib.hid (flat_succ kid k)
   have hlt' : (k : Int) < 16 := by omega
   by_cases h8 : k < 8
   ·obtain ⟨e1, e2⟩ := hiT_lo kid k h8
    have h8' : decide ((k : Int) < 8) = true := by simp; omega
    by_cases he : kid k = []
    ·rw [bitv, if_pos he] at e1
     have E1 := Lib.hid e1
     have E2 := Lib.hid e2
     clear e1 e2
     rw [he] at hki hfk2 HFS
     clear he
     generalize hiT kid k = hi at *
     generalize loT kid k = lo at *
     generalize (kidsTo kid k).flatten = fl at *
     go_wp2_with fail
     exact ⟨⟨k + 1, by omega, by go_num, by simp [E1.out], by simp [E2.out], by simp [HFS.out]⟩, by simp [intOf]; omega⟩
    ·rw [bitv, if_neg he] at e1
     have E1 := Lib.hid e1
     have E2 := Lib.hid e2
     clear e1 e2
     have he1 : (kid k).isEmpty = false := by simpa using he
     clear he
     generalize kid k = x at *
     generalize hiT kid k = hi at *
     generalize loT kid k = lo at *
     generalize (kidsTo kid k).flatten = fl at *
     have hcat : ¬ 9223372036854775807 < fl.length + x.length := by omega
     go_wp2_with fail
     exact ⟨⟨k + 1, by omega, by go_num, by simp [E1.out], by simp [E2.out], by simp [HFS.out]⟩, by simp [intOf]; omega⟩
   ·obtain ⟨e1, e2⟩ := loT_hi kid k (by omega)
    have h8' : decide ((k : Int) < 8) = false := by simp; omega
    by_cases he : kid k = []
    ·rw [bitv, if_pos he] at e1
     have E1 := Lib.hid e1
     have E2 := Lib.hid e2
     clear e1 e2
     rw [he] at hki hfk2 HFS
     clear he
     generalize hiT kid k = hi at *
     generalize loT kid k = lo at *
     generalize (kidsTo kid k).flatten = fl at *
     go_wp2_with fail
     exact ⟨⟨k + 1, by omega, by go_num, by simp [E2.out], by simp [E1.out], by simp [HFS.out]⟩, by simp [intOf]; omega⟩
    ·rw [bitv, if_neg he] at e1
     have E1 := Lib.hid e1
     have E2 := Lib.hid e2
     clear e1 e2
     have he1 : (kid k).isEmpty = false := by simpa using he
     clear he
     generalize kid k = x at *
     generalize hiT kid k = hi at *
     generalize loT kid k = lo at *
     generalize (kidsTo kid k).flatten = fl at *
     have hcat : ¬ 9223372036854775807 < fl.length + x.length := by omega
     go_wp2_with fail
     exact ⟨⟨k + 1, by omega, by go_num, by simp [E2.out], by simp [E1.out], by simp [HFS.out]⟩, by simp [intOf]; omega⟩
  ·have hke : k = 16 := by omega
   subst hke
   have hfk := HF.out 16 (by omega)
   have hh := hiK_lt kid
   have hl := loK_lt kid
   have HH : Hid ((kidsTo kid 16).flatten = (kidsF kid).flatten) := Lib.hid rfl
   rw [show hiT kid 16 = hiK kid from rfl, show loT kid 16 = loK kid from by rw [loK_eq]; rfl]
   generalize (kidsTo kid 16).flatten = fl at *
   have hcat : ¬ 9223372036854775807 < 1 + 2 := by omega
   have hcat1 : ¬ 9223372036854775807 < fl.length + 1 + 1 + 1 := by omega
   have hcat2 : ¬ 9223372036854775807 < fl.length + 1 + 1 + 1 + (text val).length := by omega
   have q1 : IntKind.u8.wrap ((hiK kid : Nat) : Int) = ((hiK kid : Nat) : Int) := by rw [IntKind.wrap_u8']; omega
   have q2 : IntKind.u8.wrap ((loK kid : Nat) : Int) = ((loK kid : Nat) : Int) := by rw [IntKind.wrap_u8']; omega
   have hcat3 : ¬ 9223372036854775807 < 3 + fl.length := by omega
   have hcat4 : ¬ 9223372036854775807 < 3 + fl.length + (text val).length := by omega
   obtain ⟨b1, b2, b3⟩ := id hB1
   go_wp2_with fail
   go_region_with (go_at_call 106; refine (rText_any val (by omega) _).mono ?_; rintro e w' ⟨rfl, hbx⟩; obtain ⟨hcx, hfx⟩ := bcell hbx)
   all_goals go_wp2_with fail
   all_goals go_ret
   all_goals exact ⟨by rw [← HH.out]; rfl, by (repeat (first | exact Below.refl _ _ | assumption | apply Below.drew | apply below_drewN | apply Below.allocS | (refine Below.setCell ?_ (by simp <;> omega) _) | (refine Below.alloc ?_ (by simp <;> omega) _) | (refine Below.trans ?_ (Below.mono (by assumption) (by simp <;> omega)))))⟩
end Go.Proofs.YthkpmlfaddlieaaGreatDoor
