/- Ref2, Ref2R, RefL. -/
import Derived.Test.YthgjdaomcpinaaaGreatDoorMp13
set_option linter.unnecessarySimpa false
set_option linter.unusedSimpArgs false
set_option linter.unusedVariables false
set_option maxRecDepth 100000
set_option maxHeartbeats 32000000
namespace Go.Proofs.YthgjdaomcpinaaaGreatDoor
open Go.RowKit Pl
theorem rNumber_any (n : Nat) (hn : n < 9223372036854775808) (w : World) :
  Calls Tryz.prog 88 #[.int .i64 n] w fun e w' => e = .returned (.string ⟨List.toArray (num n)⟩) ∧ Below w.heap.size w w' := by
 go_enter Tryz.func88, Tryz.ntmps88
 go_wp2_with fail
 go_loopw [0, 3] (fun s0 s3 wr => ∃ (k m : Nat) (d : Bs), d.length + k = 8 ∧ m < 256 ^ k ∧ m < 9223372036854775808 ∧ Hid (digs 8 n = digs k m ++ d) ∧ s0 = .int .i64 m ∧ s3 = .string ⟨List.toArray d⟩ ∧ Below w.heap.size w wr)
  (fun s0 _ _ => (intOf s0).toNat)
 case atStart =>
  exact ⟨8, n, [], rfl, by omega, hn, Lib.hid (by simp), rfl, rfl, Below.refl _ _⟩
 case round =>
  obtain ⟨k, m, d, hd, hm, hm2, HD, rfl, rfl, hb⟩ := hrel
  have hcat : ¬ 9223372036854775807 < 1 + d.length := by omega
  by_cases h0 : 0 < m
  ·obtain ⟨j, rfl⟩ : ∃ j, k = j + 1 := by
    rcases Nat.eq_zero_or_pos k with h | h
    ·subst h; omega
    ·exact ⟨k - 1, by omega⟩
   go_wp2_with fail
   refine ⟨⟨j, m / 256, UInt8.ofNat (m % 256) :: d, by simp at hd ⊢; omega, by rw [Nat.pow_succ] at hm; omega, by omega, ?_, by go_num, ?_, by (repeat (first | exact Below.refl _ _ | assumption | apply Below.drew | apply below_drewN | apply Below.allocS | (refine Below.setCell ?_ (by simp <;> omega) _) | (refine Below.alloc ?_ (by simp <;> omega) _) | (refine Below.trans ?_ (Below.mono (by assumption) (by simp <;> omega)))))⟩, by simp [intOf]; omega⟩
   ·refine Lib.hid ?_
    rw [HD.out, digs_step _ _ h0, List.append_assoc]; rfl
   ·refine str_eq ?_
    simp
  ·have hm0 : m = 0 := by omega
   subst hm0
   have hfin : num n = UInt8.ofNat d.length :: d := by
    unfold num
    rw [HD.out, digs_zero, List.nil_append]
   have HF := Lib.hid hfin
   clear hfin
   have hdl : (d.length : Int) ≤ 8 := by omega
   go_wp2_with fail
   go_ret
   exact ⟨by rw [HF.out]; rfl, by (repeat (first | exact Below.refl _ _ | assumption | apply Below.drew | apply below_drewN | apply Below.allocS | (refine Below.setCell ?_ (by simp <;> omega) _) | (refine Below.alloc ?_ (by simp <;> omega) _) | (refine Below.trans ?_ (Below.mono (by assumption) (by simp <;> omega)))))⟩
theorem rText_any (s : Bs) (hs : s.length < 9223372036854775000) (w : World) :
  Calls Tryz.prog 103 #[.string ⟨List.toArray s⟩] w fun e w' => e = .returned (.string ⟨List.toArray (text s)⟩) ∧ Below w.heap.size w w' := by
 have hl := num_len s.length
 have hcat : ¬ 9223372036854775807 < (num s.length).length + s.length := by omega
 go_enter Tryz.func103, Tryz.ntmps103
 go_wp2_with fail
 refine (rNumber_any s.length (by omega) _).mono ?_
 rintro e w1 ⟨rfl, hb⟩
 go_wp2_with fail
 go_ret
 exact ⟨rfl, hb⟩
theorem rtake_nil (w : World) : Calls Tryz.prog 116 #[.string ⟨List.toArray []⟩] w fun e w' => e = .returned (.tuple #[.int .i64 0, .string ⟨List.toArray []⟩, .int .i64 20]) ∧ ∃ n, w' = w.drewN n := by
 go_enter Tryz.func116, Tryz.ntmps116
 go_wp2_with fail
 go_ret3
 exact ⟨rfl, 0, rfl⟩
theorem take_cons' (k : UInt8) (r : Bs) : Pl.take (k :: r) = (if 8 < k.toNat then (0, [], 3)
  else if r.length < k.toNat then (0, [], 20)
  else if (0 < k.toNat ∧ r.headD 0 = 0) ∨ (k.toNat = 8 ∧ 127 < (r.headD 0).toNat) then (0, [], 3)
  else (be (r.take k.toNat), r.drop k.toNat, 0)) := rfl
theorem rtake_cons (k : UInt8) (r : Bs) (hl : r.length < 9223372036854775800) (w : World) :
  Calls Tryz.prog 116 #[.string ⟨List.toArray (k :: r)⟩] w fun e w' => e = .returned (.tuple #[.int .i64 ((Pl.take (k :: r)).1), .string ⟨List.toArray ((Pl.take (k :: r)).2.1)⟩, .int .i64 ((Pl.take (k :: r)).2.2)]) ∧ ∃ n, w' = w.drewN n := by
 have HC := Lib.hid (take_cons' k r)
 have hk := k.toNat_lt
 generalize hgn : k.toNat = kn at *
 by_cases h8 : 8 < kn
 ·rw [show Pl.take (k :: r) = (0, [], 3) from by rw [HC.out, if_pos h8]]
  have h8' : (8 : Int) < (kn : Int) := by omega
  go_enter Tryz.func116, Tryz.ntmps116
  go_wp2_with fail
  go_ret3
  exact ⟨rfl, 0, rfl⟩
 have h8' : ¬ (8 : Int) < (kn : Int) := by omega
 by_cases hr : r.length < kn
 ·rw [show Pl.take (k :: r) = (0, [], 20) from by rw [HC.out, if_neg h8, if_pos hr]]
  have hr' : (r.length : Int) + 1 < (kn : Int) + 1 := by omega
  go_enter Tryz.func116, Tryz.ntmps116
  go_wp2_with fail
  go_ret3
  exact ⟨rfl, 0, rfl⟩
 have hr' : ¬ (r.length : Int) < (kn : Int) := by omega
 by_cases h0 : kn = 0
 ·rw [show Pl.take (k :: r) = (0, r, 0) from by rw [HC.out, if_neg h8, if_neg hr, if_neg (by omega), h0]; rfl]
  subst h0
  go_enter Tryz.func116, Tryz.ntmps116
  go_wp2_with fail
  go_loop [6, 7] (fun s6 s7 => s6 = .int .i64 0 ∧ s7 = .int .i64 1) (fun _ _ => 0)
  case atStart => exact ⟨rfl, rfl⟩
  case round =>
   obtain ⟨rfl, rfl⟩ := hrel
   go_wp2_with fail
   go_quiet (fail)
   go_wp2_with fail
   go_ret3
   exact ⟨rfl, _, rfl⟩
 obtain ⟨c, t, rfl⟩ : ∃ c t, r = c :: t := by
  cases r with
  | nil => simp at hr; omega
  | cons c t => exact ⟨c, t, rfl⟩
 have hcl := c.toNat_lt
 have hk0 : (0 : Int) < (kn : Int) := by omega
 have HG := Lib.hid hgn
 clear hgn
 by_cases hc0 : c = 0
 ·rw [show Pl.take (k :: c :: t) = (0, [], 3) from by rw [HC.out, if_neg h8, if_neg hr, if_pos (.inl ⟨by omega, hc0⟩)]]
  have hc1 : ((c.toNat : Int) == 0) = true := by rw [hc0]; rfl
  have HK := Lib.hid hc0
  clear hc0
  have hgk := HG.out
  go_enter Tryz.func116, Tryz.ntmps116
  go_wp2_with fail
  go_ret3
  exact ⟨rfl, 0, rfl⟩
 have hc1 : ((c.toNat : Int) == 0) = false := by
  have : c.toNat ≠ 0 := fun h => hc0 (UInt8.toNat_inj.1 (by simpa using h))
  simp; omega
 by_cases h88 : kn = 8 ∧ 127 < c.toNat
 ·rw [show Pl.take (k :: c :: t) = (0, [], 3) from by rw [HC.out, if_neg h8, if_neg hr, if_pos (.inr h88)]]
  have hk8 : ((kn : Int) == 8) = true := by simp; omega
  have hc2 : (127 : Int) < (c.toNat : Int) := by omega
  have hc3 : decide ((127 : Int) < (c.toNat : Int)) = true := by simpa using hc2
  have HK := Lib.hid h88
  clear h88
  have hgk := HG.out
  go_enter Tryz.func116, Tryz.ntmps116
  go_wp2_with fail
  go_ret3
  exact ⟨rfl, 0, rfl⟩
 have hbl : ((c :: t).take kn).length = kn := by rw [List.length_take]; omega
 have hbound := be_bound ((c :: t).take kn) (by omega) (fun h => by
  obtain ⟨j, rfl⟩ : ∃ j, kn = j + 1 := ⟨kn - 1, by omega⟩
  simp only [List.take_succ_cons, List.headD_cons]
  have := fun h' => h88 ⟨by omega, h'⟩
  omega)
 rw [hbl] at hbound
 have HBD := Lib.hid hbound
 clear hbound hbl
 rw [show Pl.take (k :: c :: t) = (be ((c :: t).take kn), (c :: t).drop kn, 0) from by
  rw [HC.out, if_neg h8, if_neg hr, if_neg (by
   rintro (⟨_, h⟩ | h)
   ·exact hc0 h
   ·exact h88 h)]]
 have HH := Lib.hid h88
 have HC0 := Lib.hid hc0
 clear h88 hc0
 have hlen : (kn : Int) ≤ (t.length : Int) + 1 := by simp at hr; omega
 generalize hct : c :: t = r at *
 have hrl : (kn : Int) ≤ (r.length : Int) := by omega
 have hr0 : 0 < r.length := by omega
 have hget : r[0]'hr0 = c := by subst hct; rfl
 have HCT := Lib.hid hct
 clear hct
 have hgk := HG.out
 by_cases hk8 : kn = 8
 ·have hk8' : ((kn : Int) == 8) = true := by simp; omega
  have hc2 : ¬ (127 : Int) < (c.toNat : Int) := by intro h; exact HH.out ⟨hk8, by omega⟩
  have hc3 : decide ((127 : Int) < (c.toNat : Int)) = false := by simpa using hc2
  have HK8 := Lib.hid hk8
  clear hk8
  go_enter Tryz.func116, Tryz.ntmps116
  go_wp2_with fail
  go_loop [6, 7] (fun s6 s7 => ∃ j : Nat, j ≤ kn ∧ s7 = .int .i64 ((j : Int) + 1) ∧ s6 = .int .i64 (be ((r.take kn).take j))) (fun _ s7 => kn + 1 - (intOf s7).toNat)
  case atStart => exact ⟨0, by omega, rfl, by simp [be]⟩
  case round =>
   obtain ⟨j, hj, rfl, rfl⟩ := hrel
   by_cases hlt : j < kn
   ·have hbd := HBD.out j hlt
    have hjr : j < r.length := by omega
    have hsn : be ((r.take kn).take (j + 1)) = be ((r.take kn).take j) * 256 + r[j].toNat := by
     rw [List.take_succ_eq_append_getElem (by rw [List.length_take]; omega), be_snoc, List.getElem_take]
    have HSN := Lib.hid hsn
    clear hsn
    have hbi := r[j].toNat_lt
    generalize be ((r.take kn).take j) = m at *
    go_wp2_with fail
    exact ⟨⟨j + 1, by omega, by go_num, by rw [HSN.out]; go_num⟩, by simp [intOf]; omega⟩
   ·have hje : (r.take kn).take j = r.take kn := List.take_of_length_le (by rw [List.length_take]; omega)
    rw [hje]
    have hjk : j = kn := by omega
    subst hjk
    clear hje
    go_wp2_with fail
    go_quiet (fail)
    go_wp2_with fail
    go_ret3
    exact ⟨by simp; exact List.take_of_length_le (by simp), _, rfl⟩
 ·have hk8' : ((kn : Int) == 8) = false := by simp; omega
  go_enter Tryz.func116, Tryz.ntmps116
  go_wp2_with fail
  go_loop [6, 7] (fun s6 s7 => ∃ j : Nat, j ≤ kn ∧ s7 = .int .i64 ((j : Int) + 1) ∧ s6 = .int .i64 (be ((r.take kn).take j))) (fun _ s7 => kn + 1 - (intOf s7).toNat)
  case atStart => exact ⟨0, by omega, rfl, by simp [be]⟩
  case round =>
   obtain ⟨j, hj, rfl, rfl⟩ := hrel
   by_cases hlt : j < kn
   ·have hbd := HBD.out j hlt
    have hjr : j < r.length := by omega
    have hsn : be ((r.take kn).take (j + 1)) = be ((r.take kn).take j) * 256 + r[j].toNat := by
     rw [List.take_succ_eq_append_getElem (by rw [List.length_take]; omega), be_snoc, List.getElem_take]
    have HSN := Lib.hid hsn
    clear hsn
    have hbi := r[j].toNat_lt
    generalize be ((r.take kn).take j) = m at *
    go_wp2_with fail
    exact ⟨⟨j + 1, by omega, by go_num, by rw [HSN.out]; go_num⟩, by simp [intOf]; omega⟩
   ·have hje : (r.take kn).take j = r.take kn := List.take_of_length_le (by rw [List.length_take]; omega)
    rw [hje]
    have hjk : j = kn := by omega
    subst hjk
    clear hje
    go_wp2_with fail
    go_quiet (fail)
    go_wp2_with fail
    go_ret3
    exact ⟨by simp; exact List.take_of_length_le (by simp), _, rfl⟩
end Go.Proofs.YthgjdaomcpinaaaGreatDoor
namespace Go.Proofs.YthgjdaomcpinaaaGreatDoor
open Go.RowKit Pl
theorem rtake_any (s : Bs) (hl : s.length < 9223372036854775800) (w : World) :
  Calls Tryz.prog 116 #[.string ⟨List.toArray s⟩] w fun e w' => e = .returned (.tuple #[.int .i64 ((Pl.take s).1), .string ⟨List.toArray ((Pl.take s).2.1)⟩, .int .i64 ((Pl.take s).2.2)]) ∧ ∃ n, w' = w.drewN n := by
 cases s with
 | nil => exact rtake_nil w
 | cons k r => exact rtake_cons k r (by simp at hl; omega) w
theorem tx_len (s : Bs) (most : Int) : (tx s most).1.length ≤ s.length ∧ (tx s most).2.1.length ≤ s.length := by
 unfold tx
 by_cases he : (Pl.take s).2.2 = 0
 ·obtain ⟨_, k, hk1, hk2, hk3⟩ := take_le s he
  rw [if_neg (by simpa using he)]
  split
  ·simp
  ·split
   ·simp
   ·rw [hk3]; simp; omega
 ·rw [if_pos he]; simp
theorem rtext2_any (s : Bs) (most : Int) (hl : s.length < 9223372036854775800) (w : World) :
  Calls Tryz.prog 115 #[.string ⟨List.toArray s⟩, .int .i64 most] w fun e w' => e = .returned (.tuple #[.string ⟨List.toArray ((tx s most).1)⟩, .string ⟨List.toArray ((tx s most).2.1)⟩, .int .i64 ((tx s most).2.2)]) ∧ ∃ n, w' = w.drewN n := by
 by_cases he : (Pl.take s).2.2 = 0
 ·obtain ⟨hn, kk, hk1, hk2, hk3⟩ := take_le s he
  have hlen : (Pl.take s).2.1.length ≤ s.length := by rw [hk3]; simp
  by_cases hm : most < (Pl.take s).1
  ·rw [show tx s most = ([], [], 2) from by unfold tx; rw [if_neg (by simpa using he), if_pos hm]]
   clear hk3
   go_enter Tryz.func115, Tryz.ntmps115
   go_wp2_with fail
   refine (rtake_any s hl _).mono ?_
   rintro e w1 ⟨rfl, nq, rfl⟩
   rw [he]
   clear he
   go_wp2_with fail
   go_ret3
   exact ⟨rfl, _, rfl⟩
  ·by_cases hr : (Pl.take s).2.1.length < (Pl.take s).1
   ·rw [show tx s most = ([], [], 20) from by unfold tx; rw [if_neg (by simpa using he), if_neg hm, if_pos hr]]
    have hr' : ((Pl.take s).2.1.length : Int) < ((Pl.take s).1 : Int) := by omega
    clear hk3
    go_enter Tryz.func115, Tryz.ntmps115
    go_wp2_with fail
    refine (rtake_any s hl _).mono ?_
    rintro e w1 ⟨rfl, nq, rfl⟩
    rw [he]
    clear he
    go_wp2_with fail
    go_ret3
    exact ⟨rfl, _, rfl⟩
   ·rw [show tx s most = ((Pl.take s).2.1.take (Pl.take s).1, (Pl.take s).2.1.drop (Pl.take s).1, 0) from by unfold tx; rw [if_neg (by simpa using he), if_neg hm, if_neg hr]]
    have hr' : ((Pl.take s).1 : Int) ≤ ((Pl.take s).2.1.length : Int) := by omega
    clear hk3
    go_enter Tryz.func115, Tryz.ntmps115
    go_wp2_with fail
    refine (rtake_any s hl _).mono ?_
    rintro e w1 ⟨rfl, nq, rfl⟩
    rw [he]
    clear he
    go_wp2_with fail
    go_quiet (fail)
    go_wp2_with fail
    go_ret3
    exact ⟨by simp; exact List.take_of_length_le (by simp), _, World.drewN_drewN _ _ _⟩
 ·rw [show tx s most = ([], [], (Pl.take s).2.2) from by unfold tx; rw [if_pos he]]
  have hc2 : ((Pl.take s).2.2 != 0) = true := by simpa using he
  go_enter Tryz.func115, Tryz.ntmps115
  go_wp2_with fail
  refine (rtake_any s hl _).mono ?_
  rintro e w1 ⟨rfl, nq, rfl⟩
  go_wp2_with fail
  go_ret3
  exact ⟨rfl, _, rfl⟩
def RRdr (w : World) (p : Nat) (s : Bs) (c : Int) : Prop := Blk w p #[.string ⟨List.toArray s⟩, .int .i64 c]
theorem rrNum_any (s : Bs) (c : Int) (p : Nat) (w : World) (hl : s.length < 9223372036854775800) (R : RRdr w p s c) :
  Calls Tryz.prog 62 #[.pointer (some ⟨p, 0, none⟩)] w fun e w' => e = .returned (.int .i64 ((mNum s c).1)) ∧ RRdr w' p (mNum s c).2.1 (mNum s c).2.2 ∧ Mod [p] w w' := by
 have B : Blk w p #[.string ⟨List.toArray s⟩, .int .i64 c] := R
 obtain ⟨b1, b2, b3⟩ := id B
 by_cases hc : c = 0
 ·subst hc
  by_cases he : (Pl.take s).2.2 = 0
  ·rw [show mNum s 0 = ((Pl.take s).1, (Pl.take s).2.1, 0) from by simp [mNum, he]]
   go_enter Tryz.func62, Tryz.ntmps62
   go_wp2_with fail
   refine (rtake_any s hl _).mono ?_
   rintro e w1 ⟨rfl, nq, rfl⟩
   rw [he]
   clear he
   go_wp2_with fail
   go_ret
   exact ⟨rfl, ((B.drewN nq).set 1 _).set 0 _, (((Mod.refl _ _).drewN nq).setCell (.inl (by simp)) _).setCell (.inl (by simp)) _⟩
  ·rw [show mNum s 0 = (0, s, (Pl.take s).2.2) from by simp [mNum, he]]
   have hc2 : ((Pl.take s).2.2 != 0) = true := by simpa using he
   go_enter Tryz.func62, Tryz.ntmps62
   go_wp2_with fail
   refine (rtake_any s hl _).mono ?_
   rintro e w1 ⟨rfl, nq, rfl⟩
   go_wp2_with fail
   go_ret
   exact ⟨rfl, (B.drewN nq).set 1 _, ((Mod.refl _ _).drewN nq).setCell (.inl (by simp)) _⟩
 ·rw [show mNum s c = (0, s, c) from by simp [mNum, hc]]
  have hc2 : (c != 0) = true := by simpa using hc
  go_enter Tryz.func62, Tryz.ntmps62
  go_wp2_with fail
  go_ret
  exact ⟨rfl, B, Mod.refl _ _⟩
theorem rrText_any (s : Bs) (c most : Int) (p : Nat) (w : World) (hl : s.length < 9223372036854775800) (R : RRdr w p s c) :
  Calls Tryz.prog 60 #[.pointer (some ⟨p, 0, none⟩), .int .i64 most] w fun e w' => e = .returned (.string ⟨List.toArray ((mText s c most).1)⟩) ∧ RRdr w' p (mText s c most).2.1 (mText s c most).2.2 ∧ Mod [p] w w' := by
 have B : Blk w p #[.string ⟨List.toArray s⟩, .int .i64 c] := R
 obtain ⟨b1, b2, b3⟩ := id B
 by_cases hc : c = 0
 ·subst hc
  by_cases he : (tx s most).2.2 = 0
  ·rw [show mText s 0 most = ((tx s most).1, (tx s most).2.1, 0) from by simp [mText, he]]
   go_enter Tryz.func60, Tryz.ntmps60
   go_wp2_with fail
   refine (rtext2_any s most hl _).mono ?_
   rintro e w1 ⟨rfl, nq, rfl⟩
   rw [he]
   clear he
   go_wp2_with fail
   go_ret
   exact ⟨rfl, ((B.drewN nq).set 1 _).set 0 _, (((Mod.refl _ _).drewN nq).setCell (.inl (by simp)) _).setCell (.inl (by simp)) _⟩
  ·rw [show mText s 0 most = ([], s, (tx s most).2.2) from by simp [mText, he]]
   have hc2 : ((tx s most).2.2 != 0) = true := by simpa using he
   go_enter Tryz.func60, Tryz.ntmps60
   go_wp2_with fail
   refine (rtext2_any s most hl _).mono ?_
   rintro e w1 ⟨rfl, nq, rfl⟩
   go_wp2_with fail
   go_ret
   exact ⟨rfl, (B.drewN nq).set 1 _, ((Mod.refl _ _).drewN nq).setCell (.inl (by simp)) _⟩
 ·rw [show mText s c most = ([], s, c) from by simp [mText, hc]]
  have hc2 : (c != 0) = true := by simpa using hc
  go_enter Tryz.func60, Tryz.ntmps60
  go_wp2_with fail
  go_ret
  exact ⟨rfl, B, Mod.refl _ _⟩
theorem rrBytes_any (s : Bs) (c n : Int) (p : Nat) (w : World) (hl : s.length < 9223372036854775800) (hn : n ≤ 9223372036854775807) (R : RRdr w p s c) :
  Calls Tryz.prog 113 #[.pointer (some ⟨p, 0, none⟩), .int .i64 n] w fun e w' => e = .returned (.string ⟨List.toArray ((mBytes s c n).1)⟩) ∧ RRdr w' p (mBytes s c n).2.1 (mBytes s c n).2.2 ∧ Mod [p] w w' := by
 have B : Blk w p #[.string ⟨List.toArray s⟩, .int .i64 c] := R
 obtain ⟨b1, b2, b3⟩ := id B
 by_cases hc : c = 0
 ·subst hc
  by_cases hn0 : n < 0
  ·rw [show mBytes s 0 n = ([], s, 1) from by simp [mBytes, hn0]]
   go_enter Tryz.func113, Tryz.ntmps113
   go_wp2_with fail
   go_ret
   exact ⟨rfl, B.set 1 _, (Mod.refl _ _).setCell (.inl (by simp)) _⟩
  ·obtain ⟨n, rfl⟩ := Int.eq_ofNat_of_zero_le (show 0 ≤ n by omega)
   by_cases hr : (s.length : Int) < n
   ·rw [show mBytes s 0 n = ([], s, 20) from by unfold mBytes; rw [if_neg (by simp), if_neg (by omega), if_pos hr]]
    go_enter Tryz.func113, Tryz.ntmps113
    go_wp2_with fail
    all_goals go_ret
    all_goals exact ⟨rfl, B.set 1 _, by (repeat (first | exact Mod.refl _ _ | assumption | apply Mod.drew | apply Mod.drewN | apply Mod.alloc | (refine Mod.setCell ?_ (by simp <;> omega) _) | (refine Mod.trans ?_ (by assumption))))⟩
   ·rw [show mBytes s 0 n = (s.take n, s.drop n, 0) from by unfold mBytes; rw [if_neg (by simp), if_neg (by omega), if_neg hr]; simp]
    have hr' : (n : Int) ≤ (s.length : Int) := by omega
    go_enter Tryz.func113, Tryz.ntmps113
    go_wp2_with fail
    all_goals go_ret
    all_goals exact ⟨by simp; try exact List.take_of_length_le (by simp), by rw [List.take_of_length_le (by simp)]; exact B.set 0 _, by (repeat (first | exact Mod.refl _ _ | assumption | apply Mod.drew | apply Mod.drewN | apply Mod.alloc | (refine Mod.setCell ?_ (by simp <;> omega) _) | (refine Mod.trans ?_ (by assumption))))⟩
 ·rw [show mBytes s c n = ([], s, c) from by simp [mBytes, hc]]
  have hc2 : (c != 0) = true := by simpa using hc
  go_enter Tryz.func113, Tryz.ntmps113
  go_wp2_with fail
  go_ret
  exact ⟨rfl, B, Mod.refl _ _⟩
theorem rrEnd_any (s : Bs) (c : Int) (p : Nat) (w : World) (hl : s.length < 9223372036854775800) (R : RRdr w p s c) :
  Calls Tryz.prog 84 #[.pointer (some ⟨p, 0, none⟩)] w fun e w' => e = .returned (.int .i64 (mEnd s c)) ∧ Mod [p] w w' := by
 have B : Blk w p #[.string ⟨List.toArray s⟩, .int .i64 c] := R
 obtain ⟨b1, b2, b3⟩ := id B
 by_cases hc : c = 0
 ·subst hc
  cases s with
  | nil =>
   rw [show mEnd [] 0 = 0 from by simp [mEnd]]
   go_enter Tryz.func84, Tryz.ntmps84
   go_wp2_with fail
   all_goals go_ret
   all_goals exact ⟨rfl, by (repeat (first | exact Mod.refl _ _ | assumption | apply Mod.drew | apply Mod.drewN | apply Mod.alloc | (refine Mod.setCell ?_ (by simp <;> omega) _) | (refine Mod.trans ?_ (by assumption))))⟩
  | cons k r =>
   rw [show mEnd (k :: r) 0 = 3 from by simp [mEnd]]
   go_enter Tryz.func84, Tryz.ntmps84
   go_wp2_with fail
   all_goals go_ret
   all_goals exact ⟨rfl, by (repeat (first | exact Mod.refl _ _ | assumption | apply Mod.drew | apply Mod.drewN | apply Mod.alloc | (refine Mod.setCell ?_ (by simp <;> omega) _) | (refine Mod.trans ?_ (by assumption))))⟩
 ·rw [show mEnd s c = c from by simp [mEnd, hc]]
  have hc2 : (c == 0) = false := by simpa using hc
  go_enter Tryz.func84, Tryz.ntmps84
  go_wp2_with fail
  all_goals go_ret
  all_goals exact ⟨rfl, by (repeat (first | exact Mod.refl _ _ | assumption | apply Mod.drew | apply Mod.drewN | apply Mod.alloc | (refine Mod.setCell ?_ (by simp <;> omega) _) | (refine Mod.trans ?_ (by assumption))))⟩
end Go.Proofs.YthgjdaomcpinaaaGreatDoor
namespace Go.Proofs.YthgjdaomcpinaaaGreatDoor
open Go.RowKit Pl
theorem rflist_any (v : Value) (l : List Bs) (w : World) (hn : l.length ≤ 1000) (hl : ∀ i, i < l.length → (l.getD i []).length ≤ 1000000) (hv : SS w v l) :
  Calls Tryz.prog 189 #[v] w fun e w' => e = .returned (.string ⟨List.toArray (encS l)⟩) ∧ Below w.heap.size w w' := by
 generalize hr : encS l = r
 have HR := Lib.hid hr
 clear hr
 obtain ⟨a, c, rfl⟩ := hv.form
 have HV := Lib.hid hv
 have HL := Lib.hid hl
 have HB := Lib.hid (listB_len l 1000000 hl)
 clear hv hl
 go_enter Tryz.func189, Tryz.ntmps189
 go_wp2_with fail
 refine (rNumber_any l.length (by omega) _).mono ?_
 rintro e w1 ⟨rfl, hb⟩
 have hn9 := num_len l.length
 go_wp2_with fail
 go_loopw [3, 4] (fun s3 s4 wr => ∃ i : Nat, i ≤ l.length ∧ s4 = .int .i64 i ∧ s3 = .string ⟨List.toArray (num l.length ++ listB (l.take i))⟩ ∧ Below w.heap.size w wr) (fun _ s4 _ => l.length - (intOf s4).toNat)
 case atStart => exact ⟨0, by omega, rfl, by simp [listB], hb⟩
 case round =>
  clear hb
  obtain ⟨i, hi, rfl, rfl, hb⟩ := hrel
  obtain ⟨wq, h⟩ := Below.nm hb
  subst h
  by_cases hlt : i < l.length
  ·have hlt' : (i : Int) < (l.length : Int) := by omega
   obtain ⟨g, off, rfl, c1⟩ := (HV.out.keep hb).at i hlt
   have o1 := HL.out i hlt
   have hB := HB.out i (by omega)
   have hnx : num l.length ++ listB (l.take (i + 1)) = num l.length ++ listB (l.take i) ++ text (l.getD i []) := by
    rw [takeS l i hlt, listB_app, List.append_assoc]
   have hs9 : (num l.length ++ listB (l.take i)).length ≤ 1100000000 := by rw [List.length_append]; have : i ≤ 1000 := (by omega); omega
   generalize hx : l.getD i [] = x at *
   generalize num l.length ++ listB (l.take i) = s at *
   have hx9 := text_len x
   have hcat : ¬ 9223372036854775807 < s.length + (text x).length := by omega
   clear hx hB HB
   go_wp2_with fail
   refine (rText_any x (by omega) _).mono ?_
   rintro e w4 ⟨rfl, hb4⟩
   go_wp2_with fail
   exact ⟨⟨i + 1, by omega, by go_num, by rw [hnx], hb.trans (hb4.mono hb.size)⟩, by simp [intOf]; omega⟩
  ·obtain rfl : i = l.length := by omega
   rw [List.take_length]
   have hlt' : ¬ (l.length : Int) < (l.length : Int) := by omega
   go_wp2_with fail
   all_goals (go_ret; refine ⟨?_, hb⟩; rw [← HR.out]; rfl)
namespace Pl
theorem lGo_rest (each : Int) : ∀ (n : Nat) (s : Bs), (lGo each n s).2.1.length ≤ s.length
 | 0, s => Nat.le_refl _
 | n + 1, s => by
  unfold lGo
  have h := (tx_len s each).2
  split
  ·simp
  ·exact Nat.le_trans (lGo_rest each n _) h
theorem mList_rest (s : Bs) (c most each : Int) : (mList s c most each).2.1.length ≤ s.length := by
 unfold mList
 split
 ·simp
 ·split
  ·simp
  ·rename_i h
   split
   ·simp
   ·split
    ·simp
    ·refine Nat.le_trans (lGo_rest each _ _) ?_
     obtain ⟨_, k, _, _, hk⟩ := take_le s (by simpa using h)
     rw [hk]; simp
end Pl
end Go.Proofs.YthgjdaomcpinaaaGreatDoor
