/- RefLL, ShaP, Sha. -/
import Derived.Test.YthgjdaomcpinaaaGreatDoorChecked
import Derived.Test.YthgjdaomcpinaaaGreatDoorMp14
set_option linter.unnecessarySimpa false
set_option linter.unusedSimpArgs false
set_option linter.unusedVariables false
set_option maxRecDepth 100000
set_option maxHeartbeats 32000000
namespace Go.Proofs.YthgjdaomcpinaaaGreatDoor
open Go.RowKit Pl
theorem rrListL_any (s : Bs) (c most each : Int) (p : Nat) (w : World) (R : RRdr w p s c) (hm : most ≤ 100000) (hs : s.length < 9223372036854775800) :
  Calls Tryz.prog 166 #[.pointer (some ⟨p, 0, none⟩), .int .i64 most, .int .i64 each] w fun e w' => ∃ v, e = .returned v ∧ SRow w' w.heap.size v (mList s c most each).1 ∧ RRdr w' p (mList s c most each).2.1 (mList s c most each).2.2 ∧ Mod [p] w w' := by
 have B : Blk w p #[.string ⟨List.toArray s⟩, .int .i64 c] := R
 obtain ⟨b1, b2, b3⟩ := id B
 by_cases hc : c = 0
 ·subst hc
  by_cases he : (Pl.take s).2.2 = 0
  ·by_cases hmo : most < (Pl.take s).1
   ·rw [mList_long _ _ _ he hmo]
    have hd : decide (most < ((Pl.take s).1 : Int)) = true := by simpa using hmo
    go_enter Tryz.func166, Tryz.ntmps166
    go_wp2_with fail
    refine (rtake_any s hs _).mono ?_
    rintro e w1 ⟨rfl, nq, rfl⟩
    rw [he]
    clear he
    generalize (Pl.take s).1 = n at *
    generalize (Pl.take s).2.1 = s0 at *
    go_wp2_with fail
    go_loopw [8, 9, 10, 11] (fun s8 s9 s10 s11 wr => s9 = .int .i64 2 ∧ s10 = .slice none 0 0 ∧ s11 = .int .i64 0 ∧ s8 = .string ⟨List.toArray s0⟩ ∧ wr = w.drewN nq) (fun _ _ _ _ _ => 0)
    case atStart => exact ⟨rfl, rfl, rfl, rfl, rfl⟩
    case round =>
     obtain ⟨rfl, rfl, rfl, rfl, rfl⟩ := hrel
     go_wp2_with fail
     go_ret
     exact ⟨.slice none 0 0, rfl, SRow.nil _ _, (B.drewN nq).set 1 _, ((Mod.refl _ _).drewN nq).setCell (.inl (by simp)) _⟩
   ·generalize hr : mList s 0 most each = r
    have HR : Hid (mListIn s (lGo each (Pl.take s).1 (Pl.take s).2.1) = r) := Lib.hid (by rw [← hr, mList_in _ _ _ he hmo])
    clear hr
    have hd : decide (most < ((Pl.take s).1 : Int)) = false := by simpa using hmo
    have hn1 : (Pl.take s).1 ≤ 100000 := by omega
    have hs1 : (Pl.take s).2.1.length < 9223372036854775800 := by
     obtain ⟨_, k, _, _, hk⟩ := take_le s he
     rw [hk]; simp; omega
    go_enter Tryz.func166, Tryz.ntmps166
    go_wp2_with fail
    refine (rtake_any s hs _).mono ?_
    rintro e w1 ⟨rfl, nq, rfl⟩
    rw [he]
    clear he
    generalize (Pl.take s).1 = n at *
    generalize (Pl.take s).2.1 = s0 at *
    have B1 := B.drewN nq
    have m1 : Mod [p] w (w.drewN nq) := (Mod.refl _ _).drewN nq
    have hsz0 : w.heap.size ≤ (w.drewN nq).heap.size := m1.size
    clear b1 b2 b3
    go_wp2_with fail
    go_loopw [8, 9, 10, 11] (fun s8 s9 s10 s11 wr => ∃ (i : Nat) (e : Int) (t : Bs) (acc : List Bs), i ≤ n ∧ acc.length ≤ i ∧ s11 = .int .i64 i ∧ s9 = .int .i64 e ∧ SRow wr w.heap.size s10 acc ∧ t.length < 9223372036854775800 ∧ s8 = .string ⟨List.toArray t⟩ ∧ Blk wr p #[.string ⟨List.toArray s⟩, .int .i64 0] ∧ Mod [p] w wr ∧
      Hid ((e = 0 → lGo each n s0 = (acc ++ (lGo each (n - i) t).1, (lGo each (n - i) t).2)) ∧ (e ≠ 0 → (lGo each n s0).2.2 = e))) (fun _ _ _ s11 _ => n - (intOf s11).toNat)
    case atStart => exact ⟨0, 0, s0, [], by omega, by simp, rfl, rfl, SRow.nil _ _, hs1, rfl, B1, m1, Lib.hid ⟨fun _ => by simp, fun h => absurd rfl h⟩⟩
    case round =>
     clear m1 B1 hsz0
     obtain ⟨i, e, t, acc, hi, hac, rfl, rfl, hS, ht1, rfl, B1, m1, HG⟩ := hrel
     obtain ⟨b1, b2, b3⟩ := id B1
     have hpw : p < w.heap.size := B.lt
     have hsz0 := m1.size
     by_cases he : e = 0
     ·subst he
      by_cases hlt : i < n
      ·have hlt' : (i : Int) < (n : Int) := by omega
       have hG := HG.out.1 rfl
       obtain ⟨k, hk⟩ : ∃ k, n - i = k + 1 := ⟨n - i - 1, by omega⟩
       rw [hk] at hG
       have HS := Lib.hid (lGo_step each k t)
       have HB := Lib.hid (lGo_bad each k t)
       have HK := Lib.hid (show n - (i + 1) = k by omega)
       have HGG := Lib.hid hG
       have ht2 := (tx_len t each).2
       clear hG hk HG
       go_wp2_with fail
       refine (rtext2_any t each ht1 _).mono ?_
       rintro e w2 ⟨rfl, nq, rfl⟩
       have hS2 := hS.drewN nq
       have B2 := B1.drewN nq
       have m2 := m1.drewN nq
       generalize hx : tx t each = x at *
       obtain ⟨x1, x2, x3⟩ := x
       simp only at ht2 HS HB
       clear hx
       go_wp2_with (first
        | (at_builtin; refine wpList_appS rfl (.tmp 52) (.tmp 54) rfl w.heap.size _ acc rfl (hS2.alloc _) _ 0 1 1 [x1] rfl rfl (ssrc1 _ _ _) (by simp; omega) (by simp; omega) ?_; rintro v' w7 hS7 hb7)
        | fail)
       have m7 : Mod [p] w w7 := (m2.alloc _).grow hb7
       have B7 : Blk w7 p #[.string ⟨List.toArray s⟩, .int .i64 0] := (B2.alloc _).of_block (hb7.block p hpw) hb7.size
       refine ⟨⟨i + 1, x3, x2, acc ++ [x1], by omega, by simp; omega, by go_num, rfl, hS7, by omega, rfl, B7, m7, Lib.hid ⟨fun h => ?_, fun h => ?_⟩⟩, by simp [intOf]; omega⟩
       ·rw [HGG.out, HS.out h, HK.out]
        simp
       ·rw [HGG.out]
        exact HB.out h
      ·obtain rfl : i = n := by omega
       have hG := HG.out.1 rfl
       rw [Nat.sub_self, lGo, List.append_nil] at hG
       have HZ : Hid ((acc, t, (0 : Int)) = r) := Lib.hid (by rw [← HR.out, hG]; simp [mListIn])
       clear HG hG HR
       go_wp2_with fail
       all_goals (go_ret; refine ⟨_, rfl, ?_, ?_, ?_⟩)
       ·rw [← HZ.out]; exact SRow.mod (p := p) hS (((Mod.refl _ _).setCell (.inl (by simp)) _).setCell (.inl (by simp)) _) hpw
       ·rw [← HZ.out]; exact (B1.set 1 _).set 0 _
       ·exact (m1.setCell (.inl (by simp)) _).setCell (.inl (by simp)) _
     ·have HZ : Hid (([], s, e) = r) := Lib.hid (by rw [← HR.out]; unfold mListIn; rw [HG.out.2 he, if_pos he])
      have hc2 : (e != 0) = true := by simpa using he
      have hc3 : (e == 0) = false := by simpa using he
      clear HG HR
      go_wp2_with fail
      all_goals
       go_ret
       refine ⟨.slice none 0 0, rfl, ?_, ?_, m1.setCell (.inl (by simp)) _⟩
       ·rw [← HZ.out]; exact SRow.nil _ _
       ·rw [← HZ.out]; exact B1.set 1 _
  ·rw [mList_bad _ _ _ he]
   generalize he0 : (Pl.take s).2.2 = e0 at *
   have HE := Lib.hid he0
   clear he0
   have hc2 : (e0 != 0) = true := by simpa using he
   have hc3 : (e0 == 0) = false := by simpa using he
   go_enter Tryz.func166, Tryz.ntmps166
   go_wp2_with fail
   refine (rtake_any s hs _).mono ?_
   rintro e w1 ⟨rfl, nq, rfl⟩
   rw [HE.out]
   clear HE
   generalize (Pl.take s).1 = n at *
   generalize (Pl.take s).2.1 = s0 at *
   go_wp2_with fail
   go_loopw [8, 9, 10, 11] (fun s8 s9 s10 s11 wr => s9 = .int .i64 e0 ∧ s10 = .slice none 0 0 ∧ s11 = .int .i64 0 ∧ s8 = .string ⟨List.toArray s0⟩ ∧ wr = w.drewN nq) (fun _ _ _ _ _ => 0)
   case atStart => exact ⟨rfl, rfl, rfl, rfl, rfl⟩
   case round =>
    obtain ⟨rfl, rfl, rfl, rfl, rfl⟩ := hrel
    go_wp2_with fail
    go_ret
    exact ⟨.slice none 0 0, rfl, SRow.nil _ _, (B.drewN nq).set 1 _, ((Mod.refl _ _).drewN nq).setCell (.inl (by simp)) _⟩
 ·rw [mList_c _ _ _ _ hc]
  have hc2 : (c != 0) = true := by simpa using hc
  go_enter Tryz.func166, Tryz.ntmps166
  go_wp2_with fail
  all_goals go_ret
  all_goals exact ⟨.slice none 0 0, rfl, SRow.nil _ _, B, Mod.refl _ _⟩
end Go.Proofs.YthgjdaomcpinaaaGreatDoor
namespace Go.Proofs.YthgjdaomcpinaaaGreatDoor
open Go.RowKit
abbrev W32 (x : Int) : Prop := 0 ≤ x ∧ x < 4294967296
def rotI (x n : Int) : Int := bits .or .u32 (x / 2 ^ n.toNat) (x * 2 ^ (32 - n).toNat % 4294967296)
def arr (n : Nat) (f : Nat → Int) : List Value := (List.range n).map fun i => .int .u32 (f i)
def arb (n : Nat) (f : Nat → Int) : List Value := (List.range n).map fun i => .int .u8 (f i)
def updI (f : Nat → Int) (k : Nat) (x : Int) : Nat → Int := fun i => if i = k then x else f i
@[go_sem, simp] theorem arr_len (n : Nat) (f : Nat → Int) : (arr n f).length = n := by simp [arr]
@[go_sem, simp] theorem arb_len (n : Nat) (f : Nat → Int) : (arb n f).length = n := by simp [arb]
theorem arr_at (n : Nat) (f : Nat → Int) (i : Nat) (h : i < n) : (arr n f).toArray[i]? = some (.int .u32 (f i)) := by simp [arr, h]
theorem arb_at (n : Nat) (f : Nat → Int) (i : Nat) (h : i < n) : (arb n f).toArray[i]? = some (.int .u8 (f i)) := by simp [arb, h]
theorem arr_set (n : Nat) (f : Nat → Int) (k : Nat) (x : Int) : (arr n f).toArray.setIfInBounds k (.int .u32 x) = (arr n (updI f k x)).toArray := by
 apply Array.ext'
 rw [Array.toList_setIfInBounds]
 simp only [arr]
 apply List.ext_getElem (by simp)
 intro i h1 h2
 simp [List.getElem_set, updI]
 by_cases h : k = i
 ·subst h; simp
 ·rw [if_neg h, if_neg (fun e => h e.symm)]
theorem arb_set (n : Nat) (f : Nat → Int) (k : Nat) (x : Int) : (arb n f).toArray.setIfInBounds k (.int .u8 x) = (arb n (updI f k x)).toArray := by
 apply Array.ext'
 rw [Array.toList_setIfInBounds]
 simp only [arb]
 apply List.ext_getElem (by simp)
 intro i h1 h2
 simp [List.getElem_set, updI]
 by_cases h : k = i
 ·subst h; simp
 ·rw [if_neg h, if_neg (fun e => h e.symm)]
theorem arr_ext {n : Nat} {f g : Nat → Int} (h : ∀ i, i < n → f i = g i) : arr n f = arr n g := by
 unfold arr
 apply List.map_congr_left
 intro i hi
 rw [h i (by simpa using hi)]
theorem arr_one (n : Nat) (f : Nat → Int) : ∀ v ∈ arr n f, v.oneCell' = true := by
 intro v hv
 simp [arr] at hv
 obtain ⟨i, _, rfl⟩ := hv
 rfl
theorem ofInt32_nat (a : Nat) (ha : a < 4294967296) : (BitVec.ofInt 32 (a : Int)).toNat = a := by
 rw [BitVec.toNat_ofInt]; omega
theorem u32_or_nat' (a b : Nat) (ha : a < 4294967296) (hb : b < 4294967296) : bits .or .u32 (a : Int) (b : Int) = ((a ||| b : Nat) : Int) := by
 have hx : a ||| b < 2 ^ 32 := Nat.or_lt_two_pow (by omega) (by omega)
 show IntKind.u32.wrap ((BitVec.ofInt 32 (a : Int) ||| BitVec.ofInt 32 (b : Int)).toNat : Int) = _
 rw [BitVec.toNat_or, ofInt32_nat a ha, ofInt32_nat b hb, IntKind.wrap_u32']
 omega
theorem u32_or_sum (a b i P : Nat) (hP : 2 ^ i = P) (hb : b < P) (h : a * P + b < 4294967296) : bits .or .u32 ((a * P : Nat) : Int) (b : Int) = ((a * P + b : Nat) : Int) := by
 subst hP
 rw [u32_or_nat' _ _ (by omega) (by omega), Nat.mul_comm a, Nat.two_pow_add_eq_or_of_lt hb a]
theorem or4 (a b c d : Int) (ha : 0 ≤ a ∧ a < 256) (hb : 0 ≤ b ∧ b < 256) (hc : 0 ≤ c ∧ c < 256) (hd : 0 ≤ d ∧ d < 256) :
  bits .or .u32 (bits .or .u32 (bits .or .u32 (a * 16777216) (b * 65536)) (c * 256)) d = a * 16777216 + b * 65536 + c * 256 + d := by
 obtain ⟨a, rfl⟩ := Int.eq_ofNat_of_zero_le ha.1
 obtain ⟨b, rfl⟩ := Int.eq_ofNat_of_zero_le hb.1
 obtain ⟨c, rfl⟩ := Int.eq_ofNat_of_zero_le hc.1
 obtain ⟨d, rfl⟩ := Int.eq_ofNat_of_zero_le hd.1
 have e1 := u32_or_sum a (b * 65536) 24 16777216 (by decide) (by omega) (by omega)
 have e2 := u32_or_sum (a * 256 + b) (c * 256) 16 65536 (by decide) (by omega) (by omega)
 have e3 := u32_or_sum (a * 65536 + b * 256 + c) d 8 256 (by decide) (by omega) (by omega)
 have c1 : ((a : Int) * 16777216) = ((a * 16777216 : Nat) : Int) := by omega
 have c2 : ((b : Int) * 65536) = ((b * 65536 : Nat) : Int) := by omega
 have c3 : ((a * 16777216 + b * 65536 : Nat) : Int) = (((a * 256 + b) * 65536 : Nat) : Int) := by omega
 have c4 : ((c : Int) * 256) = ((c * 256 : Nat) : Int) := by omega
 have c5 : (((a * 256 + b) * 65536 + c * 256 : Nat) : Int) = (((a * 65536 + b * 256 + c) * 256 : Nat) : Int) := by simp only [Nat.add_mul, Nat.mul_assoc, Nat.reduceMul]
 rw [c1, c2, e1, c3, c4, e2, c5, e3]
 simp only [Nat.add_mul, Nat.mul_assoc, Nat.reduceMul, Int.natCast_add, Int.natCast_mul]
def word4 (b : Nat → Int) (i : Nat) : Int := b (4 * i) * 16777216 + b (4 * i + 1) * 65536 + b (4 * i + 2) * 256 + b (4 * i + 3)
def sg0 (x : Int) : Int := bits .xor .u32 (bits .xor .u32 (rotI x 7) (rotI x 18)) (x / 8)
def sg1 (y : Int) : Int := bits .xor .u32 (bits .xor .u32 (rotI y 17) (rotI y 19)) (y / 1024)
def sch (b : Nat → Int) (i : Nat) : Int :=
 if h : i < 16 then word4 b i
 else (sch b (i - 16) + sg0 (sch b (i - 15)) + sch b (i - 7) + sg1 (sch b (i - 2))) % 4294967296
termination_by i
decreasing_by all_goals omega
def bS1 (e : Int) : Int := bits .xor .u32 (bits .xor .u32 (rotI e 6) (rotI e 11)) (rotI e 25)
def bS0 (a : Int) : Int := bits .xor .u32 (bits .xor .u32 (rotI a 2) (rotI a 13)) (rotI a 22)
theorem sch_bd (b : Nat → Int) (hb : ∀ i, i < 64 → 0 ≤ b i ∧ b i < 256) (i : Nat) : W32 (sch b i) := by
 rw [sch]
 split
 ·rename_i h
  have h0 := hb (4 * i) (by omega)
  have h1 := hb (4 * i + 1) (by omega)
  have h2 := hb (4 * i + 2) (by omega)
  have h3 := hb (4 * i + 3) (by omega)
  unfold word4 W32
  omega
 ·exact ⟨Int.emod_nonneg _ (by omega), Int.emod_lt_of_pos _ (by omega)⟩
end Go.Proofs.YthgjdaomcpinaaaGreatDoor
namespace Go.Proofs.YthgjdaomcpinaaaGreatDoor
open Go.RowKit
theorem rot_any (x : Int) (n : Int) (hx : 0 ≤ x) (hx2 : x < 4294967296) (hn : 0 ≤ n) (hn2 : n ≤ 32) (w : World) :
  Calls Tryz.prog 206 #[.int .u32 x, .int .u64 n] w fun e w' => e = .returned (.int .u32 (rotI x n)) ∧ w = w' := by
 go_enter Tryz.func206, Tryz.ntmps206
 go_wp2_with fail
 go_ret
 exact ⟨rfl, rfl⟩
theorem turned_any (x : Int) (n : Int) (hx : 0 ≤ x) (hx2 : x < 4294967296) (hn : 0 ≤ n) (hn2 : n ≤ 32) (w : World) :
  Calls Tryz.prog 201 #[.int .u32 x, .int .i64 n] w fun e w' => e = .returned (.int .u32 (rotI x n)) ∧ w = w' := by
 go_enter Tryz.func201, Tryz.ntmps201
 go_wp2_with fail
 go_ret
 exact ⟨rfl, rfl⟩
theorem rot_st (x : Int) (n : Int) (hx : 0 ≤ x) (hx2 : x < 4294967296) (hn : 0 ≤ n) (hn2 : n ≤ 32) (w : World) :
  Calls Tryz.prog 206 #[.int .u32 x, .int .u64 n] w fun e w' => e = .returned (.int .u32 (rotI x n)) ∧ w' = w :=
 (rot_any x n hx hx2 hn hn2 w).mono fun _ _ ⟨h, h2⟩ => ⟨h, h2.symm⟩
theorem row64w : RowT Tryz.prog 249 64 := RowT.mk' Tryz.underlying249 rfl (by kernel_rfl)
theorem row64b : RowT Tryz.prog 229 64 := RowT.mk' Tryz.underlying229 rfl (by kernel_rfl)
theorem row8w : RowT Tryz.prog 227 8 := RowT.mk' Tryz.underlying227 rfl (by kernel_rfl)
theorem zero64w : (arr 64 fun _ => 0).toArray = #[Value.int .u32 0, Value.int .u32 0, Value.int .u32 0, Value.int .u32 0, Value.int .u32 0, Value.int .u32 0, Value.int .u32 0, Value.int .u32 0, Value.int .u32 0, Value.int .u32 0, Value.int .u32 0, Value.int .u32 0, Value.int .u32 0, Value.int .u32 0, Value.int .u32 0, Value.int .u32 0, Value.int .u32 0, Value.int .u32 0, Value.int .u32 0, Value.int .u32 0, Value.int .u32 0, Value.int .u32 0, Value.int .u32 0, Value.int .u32 0, Value.int .u32 0, Value.int .u32 0, Value.int .u32 0, Value.int .u32 0, Value.int .u32 0, Value.int .u32 0, Value.int .u32 0, Value.int .u32 0, Value.int .u32 0, Value.int .u32 0, Value.int .u32 0, Value.int .u32 0, Value.int .u32 0, Value.int .u32 0, Value.int .u32 0, Value.int .u32 0, Value.int .u32 0, Value.int .u32 0, Value.int .u32 0, Value.int .u32 0, Value.int .u32 0, Value.int .u32 0, Value.int .u32 0, Value.int .u32 0, Value.int .u32 0, Value.int .u32 0, Value.int .u32 0, Value.int .u32 0, Value.int .u32 0, Value.int .u32 0, Value.int .u32 0, Value.int .u32 0, Value.int .u32 0, Value.int .u32 0, Value.int .u32 0, Value.int .u32 0, Value.int .u32 0, Value.int .u32 0, Value.int .u32 0, Value.int .u32 0] := rfl
def schTo (b : Nat → Int) (k : Nat) : Nat → Int := fun i => if i < k then sch b i else 0
theorem schTo_succ (b : Nat → Int) (k : Nat) : updI (schTo b k) k (sch b k) = schTo b (k + 1) := by
 funext i
 unfold updI schTo
 by_cases h : i = k
 ·subst h; rw [if_pos rfl, if_pos (by omega)]
 ·rw [if_neg h]
  by_cases h2 : i < k
  ·rw [if_pos h2, if_pos (by omega)]
  ·rw [if_neg h2, if_neg (by omega)]
theorem spread_any (b : Nat → Int) (hb : ∀ i, i < 64 → 0 ≤ b i ∧ b i < 256) (w : World) :
  Calls Tryz.prog 205 #[.agg (arb 64 b).toArray] w fun e w' => e = .returned (.agg (arr 64 (sch b)).toArray) ∧ Below w.heap.size w w' := by
 have HB := Lib.hid hb
 have HSB := Lib.hid (sch_bd b hb)
 clear hb
 go_enter Tryz.func205, Tryz.ntmps205
 go_wp2_with fail
 go_loopw [8] (fun s8 wr => ∃ k : Nat, k ≤ 16 ∧ s8 = .int .i64 k ∧ Blk wr w.heap.size (arb 64 b).toArray ∧ Blk wr (w.heap.size + 1) (arr 64 fun _ => 0).toArray ∧ Blk wr (w.heap.size + 1 + 1) (arr 64 (schTo b k)).toArray ∧ Below w.heap.size w wr) (fun s8 _ => 16 - (intOf s8).toNat)
 case atStart =>
  rw [zero64w]
  exact ⟨0, by omega, rfl, ((Blk.new w _ _).alloc _).alloc _, (Blk.new' (by simp)).alloc _, by rw [show schTo b 0 = fun _ => 0 from by funext i; simp [schTo], zero64w]; exact Blk.new' (by simp), by (repeat (first | exact Below.refl _ _ | assumption | apply Below.drew | apply below_drewN | apply Below.allocS | (refine Below.setCell ?_ (by simp <;> omega) _) | (refine Below.alloc ?_ (by simp <;> omega) _) | (refine Below.trans ?_ (Below.mono (by assumption) (by simp <;> omega)))))⟩
 case round =>
  obtain ⟨k, hk, rfl, B, Z, W, hb⟩ := hrel
  rename_i wr
  by_cases hlt : k < 16
  ·have b0 := HB.out (4 * k) (by omega)
   have b1 := HB.out (4 * k + 1) (by omega)
   have b2 := HB.out (4 * k + 2) (by omega)
   have b3 := HB.out (4 * k + 3) (by omega)
   have c0 := B.cell (4 * k)
   rw [arb_at 64 b _ (by omega)] at c0
   have c1 := B.cell (4 * k + 1)
   rw [arb_at 64 b _ (by omega)] at c1
   have c2 := B.cell (4 * k + 2)
   rw [arb_at 64 b _ (by omega)] at c2
   have c3 := B.cell (4 * k + 3)
   rw [arb_at 64 b _ (by omega)] at c3
   have d0 := W.cell k
   rw [arr_at 64 _ _ (by omega)] at d0
   have d1 := W.froz
   have t0 : (4 * (k : Int)).toNat = 4 * k := by omega
   have t1 : (4 * (k : Int) + 1).toNat = 4 * k + 1 := by omega
   have t2 : (4 * (k : Int) + 2).toNat = 4 * k + 2 := by omega
   have t3 : (4 * (k : Int) + 3).toNat = 4 * k + 3 := by omega
   have i0 : IntKind.i64.wrap (4 * (k : Int)) = 4 * (k : Int) := by rw [IntKind.wrap_i64]; omega
   have i1 : IntKind.i64.wrap (4 * (k : Int) + 1) = 4 * (k : Int) + 1 := by rw [IntKind.wrap_i64]; omega
   have i2 : IntKind.i64.wrap (4 * (k : Int) + 2) = 4 * (k : Int) + 2 := by rw [IntKind.wrap_i64]; omega
   have i3 : IntKind.i64.wrap (4 * (k : Int) + 3) = 4 * (k : Int) + 3 := by rw [IntKind.wrap_i64]; omega
   generalize hx0 : b (4 * k) = x0 at *
   generalize hx1 : b (4 * k + 1) = x1 at *
   generalize hx2 : b (4 * k + 2) = x2 at *
   generalize hx3 : b (4 * k + 3) = x3 at *
   have HX0 := Lib.hid hx0
   have HX1 := Lib.hid hx1
   have HX2 := Lib.hid hx2
   have HX3 := Lib.hid hx3
   clear hx0 hx1 hx2 hx3
   go_wp2_with fail
   go_region
   go_wp2_with fail
   have hw4 : bits .or .u32 (bits .or .u32 (bits .or .u32 (x0 * 16777216) (x1 * 65536)) (x2 * 256)) x3 = sch b k := by
    rw [or4 x0 x1 x2 x3 (by omega) (by omega) (by omega) (by omega), sch, dif_pos hlt, word4, HX0.out, HX1.out, HX2.out, HX3.out]
   have W1 := (W.set k (.int .u32 (sch b k))).drew
   rw [arr_set, schTo_succ] at W1
   rw [hw4]
   exact ⟨⟨k + 1, by omega, by go_num, (B.other (by simp <;> omega) _).drew, (Z.other (by simp <;> omega) _).drew, W1, (hb.setCell (by simp <;> omega) _).drew⟩, by simp [intOf]; omega⟩
  ·have hke : k = 16 := by omega
   subst hke
   rw [show ((16 : Nat) : Int) = 16 from rfl]
   go_wp2_with fail
   go_loopw [5] (fun s5 wr => ∃ k : Nat, 16 ≤ k ∧ k ≤ 64 ∧ s5 = .int .i64 k ∧ Blk wr (w.heap.size + 1) (arr 64 fun _ => 0).toArray ∧ Blk wr (w.heap.size + 1 + 1) (arr 64 (schTo b k)).toArray ∧ Below w.heap.size w wr) (fun s5 _ => 64 - (intOf s5).toNat)
   case atStart => exact ⟨16, by omega, by omega, rfl, Z, W, hb⟩
   case round =>
    clear Z W hb B
    obtain ⟨k, hk0, hk, rfl, Z, W, hb⟩ := hrel
    rename_i wq
    by_cases hlt : k < 64
    ·have f0 : schTo b k (k - 16) = sch b (k - 16) := if_pos (by omega)
     have f1 : schTo b k (k - 15) = sch b (k - 15) := if_pos (by omega)
     have f2 : schTo b k (k - 7) = sch b (k - 7) := if_pos (by omega)
     have f3 : schTo b k (k - 2) = sch b (k - 2) := if_pos (by omega)
     have c0 := W.cell (k - 16)
     rw [arr_at 64 _ _ (by omega), f0] at c0
     have c1 := W.cell (k - 15)
     rw [arr_at 64 _ _ (by omega), f1] at c1
     have c2 := W.cell (k - 7)
     rw [arr_at 64 _ _ (by omega), f2] at c2
     have c3 := W.cell (k - 2)
     rw [arr_at 64 _ _ (by omega), f3] at c3
     have d0 := W.cell k
     rw [arr_at 64 _ _ (by omega)] at d0
     have d1 := W.froz
     have HS : Hid (sch b k = (sch b (k - 16) + sg0 (sch b (k - 15)) + sch b (k - 7) + sg1 (sch b (k - 2))) % 4294967296) := Lib.hid (by rw [sch, dif_neg (by omega)])
     obtain ⟨p0, p0'⟩ := HSB.out (k - 16)
     obtain ⟨p1, p1'⟩ := HSB.out (k - 15)
     obtain ⟨p2, p2'⟩ := HSB.out (k - 7)
     obtain ⟨p3, p3'⟩ := HSB.out (k - 2)
     have t0 : ((k : Int) - 16).toNat = k - 16 := by omega
     have t1 : ((k : Int) - 15).toNat = k - 15 := by omega
     have t2 : ((k : Int) - 7).toNat = k - 7 := by omega
     have t3 : ((k : Int) - 2).toNat = k - 2 := by omega
     have i0 : IntKind.i64.wrap ((k : Int) - 16) = (k : Int) - 16 := by rw [IntKind.wrap_i64]; omega
     have i1 : IntKind.i64.wrap ((k : Int) - 15) = (k : Int) - 15 := by rw [IntKind.wrap_i64]; omega
     have i2 : IntKind.i64.wrap ((k : Int) - 7) = (k : Int) - 7 := by rw [IntKind.wrap_i64]; omega
     have i3 : IntKind.i64.wrap ((k : Int) - 2) = (k : Int) - 2 := by rw [IntKind.wrap_i64]; omega
     have G0 := Lib.hid f0
     have G2 := Lib.hid f2
     clear f0 f1 f2 f3
     generalize sch b (k - 16) = x0 at *
     generalize sch b (k - 15) = x1 at *
     generalize sch b (k - 7) = x2 at *
     generalize sch b (k - 2) = x3 at *
     go_wp2_with fail
     go_quiet (fail)
     go_wp2_with fail
     refine wp_tail 29 (by kernel_rfl) (by kernel_rfl) ?_
     intro w2 hw2
     have W2 : Blk w2 (w.heap.size + 1 + 1) (arr 64 (schTo b k)).toArray := by rw [hw2]; exact (W.drewN _).drew
     have Z2 : Blk w2 (w.heap.size + 1) (arr 64 fun _ => 0).toArray := by rw [hw2]; exact (Z.drewN _).drew
     have hb2 : Below w.heap.size w w2 := by rw [hw2]; exact (below_drewN hb _).drew
     clear hw2 W Z hb c0 c1 c2 c3 d0 d1
     have c0 := W2.cell (k - 16)
     rw [arr_at 64 _ _ (by omega), G0.out] at c0
     have c2 := W2.cell (k - 7)
     rw [arr_at 64 _ _ (by omega), G2.out] at c2
     have d0 := W2.cell k
     rw [arr_at 64 _ _ (by omega)] at d0
     have d1 := W2.froz
     simp only [List.take_succ_cons, List.take_zero, List.drop_succ_cons, List.drop_zero]
     have q0 : (16 : Int) ≤ (k : Int) := by omega
     have q1 : (k : Int) - 16 < 64 := by omega
     have q2 : (7 : Int) ≤ (k : Int) := by omega
     have q3 : (k : Int) - 7 < 64 := by omega
     have q4 : (k : Int) < 64 := by omega
     repeat (first | still_step | still_call (rot_st _ _ (by omega) (by omega) (by omega) (by omega) _))
     refine wpStill_nil ?_
     go_wp2_with fail
     have W3 := W2.set k (.int .u32 (sch b k))
     rw [arr_set, schTo_succ] at W3
     rw [HS.out] at W3
     exact ⟨⟨k + 1, by omega, by omega, by go_num, Z2.other (by simp <;> omega) _, W3, hb2.setCell (by simp <;> omega) _⟩, by simp [intOf]; omega⟩
    ·have hke : k = 64 := by omega
     subst hke
     have hse : arr 64 (schTo b 64) = arr 64 (sch b) := arr_ext (fun i hi => if_pos hi)
     rw [hse] at W
     rw [zero64w] at Z
     go_wp2_with (first
      | (refine wpList_rowLoad row64w rfl (.tmp 3) rfl rfl (arr_len 64 _) W ?_)
      | (refine wpList_rowStore row64w rfl rfl (.tmp 2) (.tmp 84) rfl rfl rfl (arr_len 64 _) (arr_one 64 _) (by simp) Z ?_; intro w3 Z3 m3))
     refine bodyPost_ret (results_cell1 rfl _ _ _ _ rfl (row_loadVar row64w _ (arr_len 64 _) Z3)) rfl ?_
     exact ⟨rfl, Below.mod hb m3 (by have := hb.size; omega) (by simp)⟩
end Go.Proofs.YthgjdaomcpinaaaGreatDoor
