/- Code. -/
import Derived.Test.YthgjdaomcpinaaaGreatDoorMp1
set_option linter.unnecessarySimpa false
set_option linter.unusedSimpArgs false
set_option linter.unusedVariables false
set_option maxRecDepth 100000
set_option maxHeartbeats 32000000
namespace Go.Proofs.YthgjdaomcpinaaaGreatDoor
open Go.RowKit Pl
theorem take_yes (l : Bs) (at_ n : Nat) (code : Int) (p : Nat) (w : World) (hl : l.length ≤ 9223372036854775807) (hn : at_ + n ≤ l.length)
  (B : Blk w p #[.string ⟨List.toArray l⟩, .int .i64 at_, .int .i64 code]) :
  Calls Tryz.prog 146 #[.pointer (some ⟨p, 0, none⟩), .int .i64 n] w fun e w' => e = .returned (.tuple #[.string ⟨List.toArray ((l.drop at_).take n)⟩, .bool true]) ∧ Blk w' p #[.string ⟨List.toArray l⟩, .int .i64 ((at_ + n : Nat)), .int .i64 code] ∧ Mod [p] w w' := by
 obtain ⟨b1, b2, b3⟩ := id B
 go_enter Tryz.func146, Tryz.ntmps146
 go_wp2_with fail
 go_quiet (fail)
 go_wp2_with fail
 go_quiet (fail)
 go_wp2_with fail
 go_ret2
 refine ⟨ret_two (by simp) rfl, ?_, ?_⟩
 ·exact (B.drewN _).set 1 _
 ·exact ((Mod.refl _ _).drewN _).setCell (.inl (by simp)) _
theorem take_no (l : Bs) (at_ n : Nat) (code : Int) (p : Nat) (w : World) (hl : l.length ≤ 9223372036854775807) (ha : at_ ≤ l.length) (hn : l.length < at_ + n)
  (B : Blk w p #[.string ⟨List.toArray l⟩, .int .i64 at_, .int .i64 code]) :
  Calls Tryz.prog 146 #[.pointer (some ⟨p, 0, none⟩), .int .i64 n] w fun e w' => e = .returned (.tuple #[.string ⟨List.toArray []⟩, .bool false]) ∧ Blk w' p #[.string ⟨List.toArray l⟩, .int .i64 at_, .int .i64 code] ∧ Mod [p] w w' := by
 obtain ⟨b1, b2, b3⟩ := id B
 have hn' : (l.length : Int) - at_ < n := by omega
 go_enter Tryz.func146, Tryz.ntmps146
 go_wp2_with fail
 go_quiet (fail)
 go_wp2_with fail
 go_ret2
 exact ⟨rfl, B.drewN _, (Mod.refl _ _).drewN _⟩
theorem refused_yes (l : Bs) (at_ frm : Nat) (e : Int) (p : Nat) (w : World) (B : Blk w p #[.string ⟨List.toArray l⟩, .int .i64 at_, .int .i64 0]) :
  Calls Tryz.prog 108 #[.pointer (some ⟨p, 0, none⟩), .int .i64 frm, .int .i64 e] w fun x w' => x = .returned (.tuple #[]) ∧ Blk w' p #[.string ⟨List.toArray l⟩, .int .i64 frm, .int .i64 e] ∧ Mod [p] w w' := by
 obtain ⟨b1, b2, b3⟩ := id B
 go_enter Tryz.func108, Tryz.ntmps108
 go_wp2_with fail
 go_end0
 exact ⟨rfl, (B.set 1 _).set 2 _, ((Mod.refl _ _).setCell (.inl (by simp)) _).setCell (.inl (by simp)) _⟩
theorem refused_no (l : Bs) (at_ frm : Nat) (c e : Int) (hc : c ≠ 0) (p : Nat) (w : World) (B : Blk w p #[.string ⟨List.toArray l⟩, .int .i64 at_, .int .i64 c]) :
  Calls Tryz.prog 108 #[.pointer (some ⟨p, 0, none⟩), .int .i64 frm, .int .i64 e] w fun x w' => x = .returned (.tuple #[]) ∧ w = w' := by
 obtain ⟨b1, b2, b3⟩ := id B
 have hc1 : (c == 0) = false := by simpa using hc
 have hc2 : (c != 0) = true := by simpa using hc
 go_enter Tryz.func108, Tryz.ntmps108
 go_wp2_with fail
 go_end0
 exact ⟨rfl, rfl⟩
theorem left_any (l : Bs) (at_ : Nat) (code : Int) (p : Nat) (w : World) (hl : l.length ≤ 9223372036854775807) (ha : at_ ≤ l.length) (B : Blk w p #[.string ⟨List.toArray l⟩, .int .i64 at_, .int .i64 code]) :
  Calls Tryz.prog 111 #[.pointer (some ⟨p, 0, none⟩)] w fun e w' => e = .returned (.int .i64 ((l.length - at_ : Int))) ∧ ∃ n, w' = w.drewN n := by
 obtain ⟨b1, b2, b3⟩ := id B
 go_enter Tryz.func111, Tryz.ntmps111
 go_wp2_with fail
 go_quiet (fail)
 go_wp2_with fail
 go_ret
 exact ⟨rfl, _, rfl⟩
theorem readNew (l : Bs) (w : World) :
  Calls Tryz.prog 53 #[.string ⟨List.toArray l⟩] w fun e w' => e = .returned (.pointer (some ⟨w.heap.size, 0, none⟩)) ∧ w' = w.alloc (.cells #[.string ⟨List.toArray l⟩, .int .i64 0, .int .i64 0] 152) := by
 go_enter Tryz.func53, Tryz.ntmps53
 go_wp2_with fail
 go_ret
 exact ⟨rfl, rfl⟩
theorem take_cons {s : Bs} {k : UInt8} {r : Bs} (h : s = k :: r) : Pl.take s = (if 8 < k.toNat then (0, [], 3)
  else if r.length < k.toNat then (0, [], 20)
  else if (0 < k.toNat ∧ r.headD 0 = 0) ∨ (k.toNat = 8 ∧ 127 < (r.headD 0).toNat) then (0, [], 3)
  else (be (r.take k.toNat), r.drop k.toNat, 0)) := by subst h; rfl
def NumAt (p : Nat) (l : Bs) (at_ : Nat) (w' : World) : Prop :=
 ∃ a : Nat, a ≤ l.length ∧ at_ ≤ a ∧ Blk w' p #[.string ⟨List.toArray l⟩, .int .i64 a, .int .i64 0] ∧ ((Pl.take (l.drop at_)).2.2 = 0 → l.drop a = (Pl.take (l.drop at_)).2.1)
theorem number_empty (l : Bs) (at_ : Nat) (p : Nat) (w : World) (hl : l.length ≤ 9223372036854775807) (ha : at_ = l.length) (B : Blk w p #[.string ⟨List.toArray l⟩, .int .i64 at_, .int .i64 0]) :
  Calls Tryz.prog 110 #[.pointer (some ⟨p, 0, none⟩)] w fun e w' => e = .returned (.tuple #[.int .i64 0, .int .i64 20]) ∧ Blk w' p #[.string ⟨List.toArray l⟩, .int .i64 at_, .int .i64 0] ∧ Mod [p] w w' := by
 obtain ⟨b1, b2, b3⟩ := id B
 go_enter Tryz.func110, Tryz.ntmps110
 go_wp2_with fail
 refine (take_no l at_ 1 0 p _ hl (by omega) (by omega) B).mono ?_
 rintro e w1 ⟨rfl, B1, m1⟩
 clear b1 b2 b3
 go_wp2_with fail
 go_ret2
 exact ⟨rfl, B1, m1⟩
theorem number_some (l : Bs) (at_ : Nat) (k : UInt8) (r : Bs) (p : Nat) (w : World) (hl : l.length ≤ 9223372036854775807) (hs : l.drop at_ = k :: r) (B : Blk w p #[.string ⟨List.toArray l⟩, .int .i64 at_, .int .i64 0]) :
  Calls Tryz.prog 110 #[.pointer (some ⟨p, 0, none⟩)] w fun e w' => e = .returned (.tuple #[.int .i64 ((Pl.take (l.drop at_)).1), .int .i64 ((Pl.take (l.drop at_)).2.2)]) ∧ NumAt p l at_ w' ∧ Mod [p] w w' := by
 have hlen : at_ + 1 + r.length = l.length := by
  have := congrArg List.length hs
  simp at this
  omega
 have htake : (l.drop at_).take 1 = [k] := by rw [hs]; rfl
 have HT := Lib.hid htake
 have HC := Lib.hid (take_cons hs)
 have HS := Lib.hid hs
 clear htake hs
 have hk := k.toNat_lt
 obtain ⟨b1, b2, b3⟩ := id B
 go_enter Tryz.func110, Tryz.ntmps110
 go_wp2_with fail
 refine (take_yes l at_ 1 0 p _ hl (by omega) B).mono ?_
 rintro e w1 ⟨rfl, B1, m1⟩
 rw [HT.out]
 clear b1 b2 b3
 by_cases h8 : 8 < k.toNat
 ·have h8' : (8 : Int) < (k.toNat : Int) := by omega
  go_wp2_with fail
  go_ret2
  unfold NumAt
  rw [show Pl.take (l.drop at_) = (0, [], 3) from by rw [HC.out, if_pos h8]]
  exact ⟨rfl, ⟨at_ + 1, by omega, by omega, B1, fun h => by cases h⟩, m1⟩
 have h8' : ¬ (8 : Int) < (k.toNat : Int) := by omega
 by_cases hr : r.length < k.toNat
 ·go_wp2_with fail
  refine (take_no l (at_ + 1) k.toNat 0 p _ hl (by omega) (by omega) B1).mono ?_
  rintro e w2 ⟨rfl, B2, m2⟩
  go_wp2_with fail
  go_ret2
  unfold NumAt
  rw [show Pl.take (l.drop at_) = (0, [], 20) from by rw [HC.out, if_neg h8, if_pos hr]]
  exact ⟨rfl, ⟨at_ + 1, by omega, by omega, B2, fun h => by cases h⟩, m1.trans m2⟩
 have hb : (l.drop (at_ + 1)).take k.toNat = r.take k.toNat := by
  rw [← List.drop_drop, HS.out]; rfl
 have HB := Lib.hid hb
 clear hb
 go_wp2_with fail
 refine (take_yes l (at_ + 1) k.toNat 0 p _ hl (by omega) B1).mono ?_
 rintro e w2 ⟨rfl, B2, m2⟩
 rw [HB.out]
 have hm := m1.trans m2
 clear m1 m2 B1 B
 have hdrop : l.drop (at_ + 1 + k.toNat) = r.drop k.toNat := by
  rw [← List.drop_drop, ← List.drop_drop, HS.out]; rfl
 have HD := Lib.hid hdrop
 clear hdrop
 have hbl : (r.take k.toNat).length = k.toNat := by simp; omega
 have hhd : 0 < k.toNat → (r.take k.toNat).headD 0 = r.headD 0 := by
  intro h
  cases r with
  | nil => simp
  | cons a r =>
   obtain ⟨n, hn⟩ : ∃ n, k.toNat = n + 1 := ⟨k.toNat - 1, by omega⟩
   rw [hn]; rfl
 have HH := Lib.hid hhd
 clear hhd
 generalize hbb : r.take k.toNat = b at *
 have HBB := Lib.hid hbb
 clear hbb
 generalize k.toNat = kn at *
 subst hbl
 by_cases h0 : b.length = 0
 ·have hb0 : b = [] := List.length_eq_zero_iff.1 h0
  subst hb0
  go_wp2_with fail
  go_loop [7, 58] (fun s7 s58 => s7 = .int .i64 0 ∧ s58 = .int .i64 0) (fun _ _ => 0)
  case atStart => exact ⟨rfl, rfl⟩
  case round =>
   obtain ⟨rfl, rfl⟩ := hrel
   go_wp2_with fail
   go_ret2
   unfold NumAt
   rw [show Pl.take (l.drop at_) = (0, r, 0) from by rw [HC.out, if_neg h8, if_neg hr, if_neg (by simp)]; rfl]
   exact ⟨rfl, ⟨at_ + 1, by omega, by omega, B2, fun _ => HD.out⟩, hm⟩
 have HH' := HH.out (by omega)
 obtain ⟨c, b', hcb⟩ : ∃ c b', b = c :: b' := by
  cases b with
  | nil => exact absurd rfl h0
  | cons c b' => exact ⟨c, b', rfl⟩
 have hcr : r.headD 0 = c := by rw [← HH', hcb]; rfl
 have HCR := Lib.hid hcr
 clear hcr HH' HH
 by_cases hc0 : c = 0
 ·subst hcb
  have hc1 : (c.toNat : Int) = 0 := by rw [hc0]; rfl
  have hbl : 0 < b'.length + 1 := by omega
  have hl0 : (0 : Int) < (b'.length : Int) + 1 := by omega
  have hcb : ((c.toNat : Int) == 0) = true := by simpa using hc1
  have HX := Lib.hid hc1
  clear hc1
  go_wp2_with fail
  go_ret2
  unfold NumAt
  rw [show Pl.take (l.drop at_) = (0, [], 3) from by rw [HC.out, if_neg h8, if_neg hr, if_pos (.inl ⟨by omega, by rw [HCR.out, hc0]⟩)]]
  exact ⟨rfl, ⟨at_ + 1 + (c :: b').length, by omega, by omega, B2, fun h => by cases h⟩, hm⟩
 have hcn : ¬ (c.toNat : Int) = 0 := by
  intro h
  apply hc0
  apply UInt8.toNat_inj.1
  simpa using h
 have hcb0 : ((c.toNat : Int) == 0) = false := by simpa using hcn
 have HX := Lib.hid hcn
 clear hcn
 have hb0 : (0 : Int) < (b.length : Int) := by omega
 have hlt0 : 0 < b.length := by omega
 have hget : b[0] = c := by subst hcb; rfl
 have hhd0 : b.headD 0 = c := by subst hcb; rfl
 have HHD := Lib.hid hhd0
 clear hhd0 hcb
 by_cases h88 : b.length = 8 ∧ 127 < c.toNat
 ·have h8b : ((b.length : Int) == 8) = true := by simp; omega
  have hcg : (128 : Int) ≤ (c.toNat : Int) := by omega
  have hcd : decide ((128 : Int) ≤ (c.toNat : Int)) = true := by simpa using hcg
  have HL := Lib.hid h88.1
  go_wp2_with fail
  go_ret2
  unfold NumAt
  rw [show Pl.take (l.drop at_) = (0, [], 3) from by rw [HC.out, if_neg h8, if_neg hr, if_pos (.inr ⟨h88.1, by rw [HCR.out]; exact h88.2⟩)]]
  exact ⟨rfl, ⟨at_ + 1 + b.length, by omega, by omega, B2, fun h => by cases h⟩, hm⟩
 have hbound := be_bound b (by omega) (fun h => by
  rw [HHD.out]
  omega)
 have HBD := Lib.hid hbound
 clear hbound
 have hfin : Pl.take (l.drop at_) = (be b, r.drop b.length, 0) := by
  rw [HC.out, if_neg h8, if_neg hr, if_neg (by
   rintro (⟨_, h⟩ | ⟨h1, h2⟩)
   ·exact hc0 (by rw [← HCR.out]; exact h)
   ·rw [HCR.out] at h2; exact h88 ⟨h1, h2⟩)]
 have HF := Lib.hid hfin
 clear hfin
 have hcl := c.toNat_lt
 by_cases h8b : b.length = 8
 ·have h8b' : ((b.length : Int) == 8) = true := by simp; omega
  have hcg : ¬ (128 : Int) ≤ (c.toNat : Int) := by omega
  have hcd : decide ((128 : Int) ≤ (c.toNat : Int)) = false := by simpa using hcg
  have H8 := Lib.hid h8b
  clear h8b h88
  go_wp2_with fail
  go_loop [7, 58] (fun s7 s58 => ∃ i : Nat, i ≤ b.length ∧ s58 = .int .i64 i ∧ s7 = .int .i64 (be (b.take i))) (fun _ s58 => b.length - (intOf s58).toNat)
  case atStart => exact ⟨0, by omega, rfl, by simp [be]⟩
  case round =>
   obtain ⟨i, hi, rfl, rfl⟩ := hrel
   by_cases hlt : i < b.length
   ·have hbd := HBD.out i hlt
    have hsn : be (b.take (i + 1)) = be (b.take i) * 256 + b[i].toNat := by
     rw [List.take_succ_eq_append_getElem hlt, be_snoc]
    have HSN := Lib.hid hsn
    clear hsn
    have hbi := b[i].toNat_lt
    generalize be (b.take i) = m at *
    go_wp2_with fail
    exact ⟨⟨i + 1, by omega, by go_num, by rw [HSN.out, i64_or_byte _ _ hbd hbi]⟩, by simp [intOf]; omega⟩
   ·go_wp2_with fail
    go_ret2
    unfold NumAt
    rw [HF.out]
    have hib : i = b.length := by omega
    subst hib
    exact ⟨ret_two (by simp) rfl, ⟨at_ + 1 + b.length, by omega, by omega, B2, fun _ => HD.out⟩, hm⟩
 ·have h8b' : ((b.length : Int) == 8) = false := by simp; omega
  go_wp2_with fail
  go_loop [7, 58] (fun s7 s58 => ∃ i : Nat, i ≤ b.length ∧ s58 = .int .i64 i ∧ s7 = .int .i64 (be (b.take i))) (fun _ s58 => b.length - (intOf s58).toNat)
  case atStart => exact ⟨0, by omega, rfl, by simp [be]⟩
  case round =>
   obtain ⟨i, hi, rfl, rfl⟩ := hrel
   by_cases hlt : i < b.length
   ·have hbd := HBD.out i hlt
    have hsn : be (b.take (i + 1)) = be (b.take i) * 256 + b[i].toNat := by
     rw [List.take_succ_eq_append_getElem hlt, be_snoc]
    have HSN := Lib.hid hsn
    clear hsn
    have hbi := b[i].toNat_lt
    generalize be (b.take i) = m at *
    go_wp2_with fail
    exact ⟨⟨i + 1, by omega, by go_num, by rw [HSN.out, i64_or_byte _ _ hbd hbi]⟩, by simp [intOf]; omega⟩
   ·go_wp2_with fail
    go_ret2
    unfold NumAt
    rw [HF.out]
    have hib : i = b.length := by omega
    subst hib
    exact ⟨ret_two (by simp) rfl, ⟨at_ + 1 + b.length, by omega, by omega, B2, fun _ => HD.out⟩, hm⟩
end Go.Proofs.YthgjdaomcpinaaaGreatDoor
