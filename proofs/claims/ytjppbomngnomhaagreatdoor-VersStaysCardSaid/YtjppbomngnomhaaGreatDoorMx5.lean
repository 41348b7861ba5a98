/- Fine, ShaP, Sha, ShaB, Bs, Told. -/
import Derived.Test.YtjppbomngnomhaaGreatDoorChecked
import Derived.Lib.AppendStr
import Derived.Laws.AppendOwnNone
import Derived.Test.YtjppbomngnomhaaGreatDoorMx4
set_option linter.unnecessarySimpa false
set_option linter.unusedSimpArgs false
set_option linter.unusedVariables false
set_option maxRecDepth 100000
set_option maxHeartbeats 32000000
namespace Go.Proofs.YtjppbomngnomhaaGreatDoor
namespace Pl
theorem kidsTo_nil {kid : Nat → Bs} : ∀ n, (∀ i, i < n → kid i = []) → kidsTo kid n = []
 | 0, _ => rfl
 | n + 1, h => by rw [kidsTo_succ, kidsTo_nil n (fun i hi => h i (by omega)), h n (by omega)]; rfl
theorem kidsTo_mono (kid : Nat → Bs) (n : Nat) : (kidsTo kid n).length ≤ (kidsTo kid (n + 1)).length := by
 rw [kidsTo_succ]; simp
theorem kidsTo_le (kid : Nat → Bs) {n m : Nat} (h : n ≤ m) : (kidsTo kid n).length ≤ (kidsTo kid m).length := by
 induction h with
 | refl => exact Nat.le_refl _
 | step _ ih => exact Nat.le_trans ih (kidsTo_mono kid _)
theorem none_iff (kid : Nat → Bs) : noKids kid = true ↔ (kidsF kid).length = 0 := by
 constructor
 ·intro h
  have h1 : kidL kid = kidL noK := by
   simp only [noKids, sameL, decide_eq_true_eq] at h
   rw [h]; rfl
  unfold kidsF
  rw [kidsTo_nil 16 (fun i hi => kidL_eq h1 i hi)]
  rfl
 ·intro h
  have h1 : ∀ i, i < 16 → kid i = [] := fun i hi => by
   by_cases he : kid i = []
   ·exact he
   ·exfalso
    have := kidsTo_le kid (show i + 1 ≤ 16 by omega)
    rw [kidsTo_succ, if_neg he] at this
    simp [kidsF] at h this
    rw [h] at this
    simp at this
  have h2 : kidL kid = kidL noK := kidL_of (fun i hi => h1 i hi)
  simp only [noKids, sameL, decide_eq_true_eq]
  rw [h2]; rfl
theorem kidsTo_one {kid : Nat → Bs} (h0 : kid 0 ≠ []) : ∀ n, n ≤ 15 → (∀ i, 1 ≤ i → i < n + 1 → kid i = []) → kidsTo kid (n + 1) = [kid 0]
 | 0, _, _ => by rw [kidsTo_succ, if_neg h0]; rfl
 | n + 1, hn, h => by rw [kidsTo_succ, kidsTo_one h0 n (by omega) (fun i h1 h2 => h i h1 (by omega)), h (n + 1) (by omega) (by omega)]; rfl
theorem one_rest {kid : Nat → Bs} (h0 : kid 0 ≠ []) (h : (kidsF kid).length = 1) (i : Nat) (h1 : 1 ≤ i) (hi : i < 16) : kid i = [] := by
 by_cases he : kid i = []
 ·exact he
 ·exfalso
  have a := kidsTo_le kid (show i + 1 ≤ 16 by omega)
  have b := kidsTo_le kid (show 0 + 1 ≤ i by omega)
  rw [kidsTo_succ, if_neg h0] at b
  rw [kidsTo_succ, if_neg he] at a
  have h' : (kidsTo kid 16).length = 1 := h
  simp at a b
  omega
theorem one_iff (kid : Nat → Bs) : (oneKidX kid (kid 0) && all32 [kid 0]) = true ↔ all32 (kidsF kid) = true ∧ (kidsF kid).length = 1 ∧ kid 0 ≠ [] := by
 rw [Bool.and_eq_true]
 constructor
 ·rintro ⟨h, h32⟩
  have h1 : kidL kid = kidL (upd noK 0 (kid 0)) := by
   simp only [oneKidX, sameL, decide_eq_true_eq] at h
   rw [h]; rfl
  have h0 : kid 0 ≠ [] := fun e => by rw [e] at h32; exact absurd h32 (by decide)
  have hf : kidsF kid = [kid 0] := kidsTo_one h0 15 (by omega) (fun i h2 h3 => by
   have := kidL_eq h1 i (by omega)
   rw [this]; unfold upd; rw [if_neg (by omega)]; rfl)
  rw [hf]
  exact ⟨h32, rfl, h0⟩
 ·rintro ⟨h32, hl, h0⟩
  have hr := one_rest h0 hl
  have hf : kidsF kid = [kid 0] := kidsTo_one h0 15 (by omega) (fun i h2 h3 => hr i h2 (by omega))
  rw [hf] at h32
  refine ⟨?_, h32⟩
  have h2 : kidL kid = kidL (upd noK 0 (kid 0)) := kidL_of (fun i hi => by
   unfold upd
   by_cases h3 : i = 0
   ·subst h3; rw [if_pos rfl]
   ·rw [if_neg h3]; exact hr i (by omega) hi)
  simp only [oneKidX, sameL, decide_eq_true_eq]
  rw [h2]; rfl
theorem all32_nil {l : List Bs} (h : l.length = 0) : all32 l = true := by
 rw [List.length_eq_zero_iff.1 h]; rfl
theorem fine_chk (kind : Int) (path val : Bs) (kid : Nat → Bs) : fineR kind path val kid = chk kind path val kid := by
 rw [Bool.eq_iff_iff]
 unfold fineR chk
 by_cases k1 : kind = 1
 ·simp only [if_pos k1]
  have hn := none_iff kid
  constructor
  ·intro h
   split at h
   ·cases h
   ·split at h
    ·cases h
    ·rename_i ha hb
     simp at h hb
     simp [pathOk, hn.2 (by simp [h.1])]
     refine ⟨⟨⟨?_, ?_⟩, h.2⟩, ?_⟩
     ·cases hf : fit path <;> simp [hf] at hb ⊢
     ·omega
     ·omega
  ·intro h
   simp [pathOk] at h
   have hl := hn.1 h.1.1.1
   rw [if_neg (by simp [all32_nil hl]), if_neg (by simp [h.1.1.2.1]; omega)]
   simp [hl, h.1.2]
 ·by_cases k2 : kind = 2
  ·simp only [if_neg k1, if_pos k2]
   have ho := one_iff kid
   constructor
   ·intro h
    split at h
    ·cases h
    ·split at h
     ·cases h
     ·rename_i ha hb
      simp at h hb ha
      have ho2 := ho.2 ⟨ha, h.1.1.1, h.1.1.2⟩
      rw [Bool.and_eq_true] at ho2
      simp [pathOk, ho2.1, ho2.2, h.2]
      refine ⟨⟨?_, by have := h.1.2; omega⟩, ?_⟩
      ·cases hf : fit path <;> simp [hf] at hb ⊢
      ·omega
   ·intro h
    simp only [pathOk, Bool.and_eq_true] at h
    obtain ⟨⟨⟨h1, h2⟩, ⟨⟨h3, h4⟩, h5⟩⟩, h6⟩ := h
    obtain ⟨q1, q2, q3⟩ := ho.1 (by rw [h1, h2]; rfl)
    have hv : val = [] := by simpa using h6
    subst hv
    have h4' : 1 ≤ path.length := by
     have h4i : (1 : Int) ≤ (path.length : Int) := by simpa using h4
     omega
    have h5' : path.length ≤ 16 := by simpa using h5
    rw [if_neg (by simp [q1]), if_neg (by simp [h3]; omega)]
    simp [q2, q3, h4']
  ·by_cases k3 : kind = 3
   ·simp only [if_neg k1, if_neg k2, if_pos k3]
    constructor
    ·intro h
     split at h
     ·cases h
     ·split at h
      ·cases h
      ·rename_i ha hb
       have ha' : all32 (kidsF kid) = true := by simpa using ha
       simp only [not_or] at hb
       obtain ⟨_, _, hv⟩ := hb
       simp at h
       obtain ⟨hp, h⟩ := h
       subst hp
       simp only [ha', Bool.and_eq_true, decide_eq_true_eq, List.isEmpty_nil]
       refine ⟨⟨⟨by simp, by simp⟩, ?_⟩, by omega⟩
       rcases h with h | ⟨h, h2⟩
       ·omega
       ·simp [h, h2]
    ·intro h
     simp only [Bool.and_eq_true, decide_eq_true_eq] at h
     obtain ⟨⟨⟨h1, h2⟩, h3⟩, h4⟩ := h
     have hp : path = [] := by simpa using h1
     subst hp
     rw [if_neg (by simp [h2]), if_neg (by simp [fit]; omega)]
     by_cases hv : val.isEmpty = true
     ·rw [if_pos hv] at h3
      simp; omega
     ·rw [if_neg hv] at h3
      simp at hv
      simp [hv]; omega
   ·simp only [if_neg k1, if_neg k2, if_neg k3]
    constructor
    ·intro h
     split at h
     ·cases h
     ·split at h <;> cases h
    ·intro h; cases h
end Pl
end Go.Proofs.YtjppbomngnomhaaGreatDoor
namespace Go.Proofs.YtjppbomngnomhaaGreatDoor
open Go.RowKit
abbrev W32 (x : Int) : Prop := 0 ≤ x ∧ x < 4294967296
def rotI (x n : Int) : Int := bits .or .u32 (x / 2 ^ n.toNat) (x * 2 ^ (32 - n).toNat % 4294967296)
def arr (n : Nat) (f : Nat → Int) : List Value := (List.range n).map fun i => .int .u32 (f i)
def arb (n : Nat) (f : Nat → Int) : List Value := (List.range n).map fun i => .int .u8 (f i)
def updI (f : Nat → Int) (k : Nat) (x : Int) : Nat → Int := fun i => if i = k then x else f i
@[go_sem, simp] theorem arr_len (n : Nat) (f : Nat → Int) : (arr n f).length = n := by simp [arr]
@[go_sem, simp] theorem arb_len (n : Nat) (f : Nat → Int) : (arb n f).length = n := by simp [arb]
theorem arr_at (n : Nat) (f : Nat → Int) (i : Nat) (h : i < n) : (arr n f).toArray[i]? = some (.int .u32 (f i)) := by simp [arr, h]
theorem arb_at (n : Nat) (f : Nat → Int) (i : Nat) (h : i < n) : (arb n f).toArray[i]? = some (.int .u8 (f i)) := by simp [arb, h]
theorem arr_set (n : Nat) (f : Nat → Int) (k : Nat) (x : Int) : (arr n f).toArray.setIfInBounds k (.int .u32 x) = (arr n (updI f k x)).toArray := by
 apply Array.ext'
 rw [Array.toList_setIfInBounds]
 simp only [arr]
 apply List.ext_getElem (by simp)
 intro i h1 h2
 simp [List.getElem_set, updI]
 by_cases h : k = i
 ·subst h; simp
 ·rw [if_neg h, if_neg (fun e => h e.symm)]
theorem arb_set (n : Nat) (f : Nat → Int) (k : Nat) (x : Int) : (arb n f).toArray.setIfInBounds k (.int .u8 x) = (arb n (updI f k x)).toArray := by
 apply Array.ext'
 rw [Array.toList_setIfInBounds]
 simp only [arb]
 apply List.ext_getElem (by simp)
 intro i h1 h2
 simp [List.getElem_set, updI]
 by_cases h : k = i
 ·subst h; simp
 ·rw [if_neg h, if_neg (fun e => h e.symm)]
theorem arr_ext {n : Nat} {f g : Nat → Int} (h : ∀ i, i < n → f i = g i) : arr n f = arr n g := by
 unfold arr
 apply List.map_congr_left
 intro i hi
 rw [h i (by simpa using hi)]
theorem arr_one (n : Nat) (f : Nat → Int) : ∀ v ∈ arr n f, v.oneCell' = true := by
 intro v hv
 simp [arr] at hv
 obtain ⟨i, _, rfl⟩ := hv
 rfl
theorem ofInt32_nat (a : Nat) (ha : a < 4294967296) : (BitVec.ofInt 32 (a : Int)).toNat = a := by
 rw [BitVec.toNat_ofInt]; omega
theorem u32_or_nat' (a b : Nat) (ha : a < 4294967296) (hb : b < 4294967296) : bits .or .u32 (a : Int) (b : Int) = ((a ||| b : Nat) : Int) := by
 have hx : a ||| b < 2 ^ 32 := Nat.or_lt_two_pow (by omega) (by omega)
 show IntKind.u32.wrap ((BitVec.ofInt 32 (a : Int) ||| BitVec.ofInt 32 (b : Int)).toNat : Int) = _
 rw [BitVec.toNat_or, ofInt32_nat a ha, ofInt32_nat b hb, IntKind.wrap_u32']
 omega
theorem u32_or_sum (a b i P : Nat) (hP : 2 ^ i = P) (hb : b < P) (h : a * P + b < 4294967296) : bits .or .u32 ((a * P : Nat) : Int) (b : Int) = ((a * P + b : Nat) : Int) := by
 subst hP
 rw [u32_or_nat' _ _ (by omega) (by omega), Nat.mul_comm a, Nat.two_pow_add_eq_or_of_lt hb a]
theorem or4 (a b c d : Int) (ha : 0 ≤ a ∧ a < 256) (hb : 0 ≤ b ∧ b < 256) (hc : 0 ≤ c ∧ c < 256) (hd : 0 ≤ d ∧ d < 256) :
  bits .or .u32 (bits .or .u32 (bits .or .u32 (a * 16777216) (b * 65536)) (c * 256)) d = a * 16777216 + b * 65536 + c * 256 + d := by
 obtain ⟨a, rfl⟩ := Int.eq_ofNat_of_zero_le ha.1
 obtain ⟨b, rfl⟩ := Int.eq_ofNat_of_zero_le hb.1
 obtain ⟨c, rfl⟩ := Int.eq_ofNat_of_zero_le hc.1
 obtain ⟨d, rfl⟩ := Int.eq_ofNat_of_zero_le hd.1
 have e1 := u32_or_sum a (b * 65536) 24 16777216 (by decide) (by omega) (by omega)
 have e2 := u32_or_sum (a * 256 + b) (c * 256) 16 65536 (by decide) (by omega) (by omega)
 have e3 := u32_or_sum (a * 65536 + b * 256 + c) d 8 256 (by decide) (by omega) (by omega)
 have c1 : ((a : Int) * 16777216) = ((a * 16777216 : Nat) : Int) := by omega
 have c2 : ((b : Int) * 65536) = ((b * 65536 : Nat) : Int) := by omega
 have c3 : ((a * 16777216 + b * 65536 : Nat) : Int) = (((a * 256 + b) * 65536 : Nat) : Int) := by omega
 have c4 : ((c : Int) * 256) = ((c * 256 : Nat) : Int) := by omega
 have c5 : (((a * 256 + b) * 65536 + c * 256 : Nat) : Int) = (((a * 65536 + b * 256 + c) * 256 : Nat) : Int) := by simp only [Nat.add_mul, Nat.mul_assoc, Nat.reduceMul]
 rw [c1, c2, e1, c3, c4, e2, c5, e3]
 simp only [Nat.add_mul, Nat.mul_assoc, Nat.reduceMul, Int.natCast_add, Int.natCast_mul]
def word4 (b : Nat → Int) (i : Nat) : Int := b (4 * i) * 16777216 + b (4 * i + 1) * 65536 + b (4 * i + 2) * 256 + b (4 * i + 3)
def sg0 (x : Int) : Int := bits .xor .u32 (bits .xor .u32 (rotI x 7) (rotI x 18)) (x / 8)
def sg1 (y : Int) : Int := bits .xor .u32 (bits .xor .u32 (rotI y 17) (rotI y 19)) (y / 1024)
def sch (b : Nat → Int) (i : Nat) : Int :=
 if h : i < 16 then word4 b i
 else (sch b (i - 16) + sg0 (sch b (i - 15)) + sch b (i - 7) + sg1 (sch b (i - 2))) % 4294967296
termination_by i
decreasing_by all_goals omega
def bS1 (e : Int) : Int := bits .xor .u32 (bits .xor .u32 (rotI e 6) (rotI e 11)) (rotI e 25)
def bS0 (a : Int) : Int := bits .xor .u32 (bits .xor .u32 (rotI a 2) (rotI a 13)) (rotI a 22)
theorem sch_bd (b : Nat → Int) (hb : ∀ i, i < 64 → 0 ≤ b i ∧ b i < 256) (i : Nat) : W32 (sch b i) := by
 rw [sch]
 split
 ·rename_i h
  have h0 := hb (4 * i) (by omega)
  have h1 := hb (4 * i + 1) (by omega)
  have h2 := hb (4 * i + 2) (by omega)
  have h3 := hb (4 * i + 3) (by omega)
  unfold word4 W32
  omega
 ·exact ⟨Int.emod_nonneg _ (by omega), Int.emod_lt_of_pos _ (by omega)⟩
end Go.Proofs.YtjppbomngnomhaaGreatDoor
namespace Go.Proofs.YtjppbomngnomhaaGreatDoor
open Go.RowKit
theorem rot_any (x : Int) (n : Int) (hx : 0 ≤ x) (hx2 : x < 4294967296) (hn : 0 ≤ n) (hn2 : n ≤ 32) (w : World) :
  Calls Tryz.prog 143 #[.int .u32 x, .int .u64 n] w fun e w' => e = .returned (.int .u32 (rotI x n)) ∧ w = w' := by
 go_enter Tryz.func143, Tryz.ntmps143
 go_wp2_with fail
 go_ret
 exact ⟨rfl, rfl⟩
theorem turned_any (x : Int) (n : Int) (hx : 0 ≤ x) (hx2 : x < 4294967296) (hn : 0 ≤ n) (hn2 : n ≤ 32) (w : World) :
  Calls Tryz.prog 93 #[.int .u32 x, .int .i64 n] w fun e w' => e = .returned (.int .u32 (rotI x n)) ∧ w = w' := by
 go_enter Tryz.func93, Tryz.ntmps93
 go_wp2_with fail
 go_ret
 exact ⟨rfl, rfl⟩
theorem rot_st (x : Int) (n : Int) (hx : 0 ≤ x) (hx2 : x < 4294967296) (hn : 0 ≤ n) (hn2 : n ≤ 32) (w : World) :
  Calls Tryz.prog 143 #[.int .u32 x, .int .u64 n] w fun e w' => e = .returned (.int .u32 (rotI x n)) ∧ w' = w :=
 (rot_any x n hx hx2 hn hn2 w).mono fun _ _ ⟨h, h2⟩ => ⟨h, h2.symm⟩
theorem row64w : RowT Tryz.prog 163 64 := RowT.mk' Tryz.underlying163 rfl (by kernel_rfl)
theorem row64b : RowT Tryz.prog 120 64 := RowT.mk' Tryz.underlying120 rfl (by kernel_rfl)
theorem row8w : RowT Tryz.prog 118 8 := RowT.mk' Tryz.underlying118 rfl (by kernel_rfl)
theorem zero64w : (arr 64 fun _ => 0).toArray = #[Value.int .u32 0, Value.int .u32 0, Value.int .u32 0, Value.int .u32 0, Value.int .u32 0, Value.int .u32 0, Value.int .u32 0, Value.int .u32 0, Value.int .u32 0, Value.int .u32 0, Value.int .u32 0, Value.int .u32 0, Value.int .u32 0, Value.int .u32 0, Value.int .u32 0, Value.int .u32 0, Value.int .u32 0, Value.int .u32 0, Value.int .u32 0, Value.int .u32 0, Value.int .u32 0, Value.int .u32 0, Value.int .u32 0, Value.int .u32 0, Value.int .u32 0, Value.int .u32 0, Value.int .u32 0, Value.int .u32 0, Value.int .u32 0, Value.int .u32 0, Value.int .u32 0, Value.int .u32 0, Value.int .u32 0, Value.int .u32 0, Value.int .u32 0, Value.int .u32 0, Value.int .u32 0, Value.int .u32 0, Value.int .u32 0, Value.int .u32 0, Value.int .u32 0, Value.int .u32 0, Value.int .u32 0, Value.int .u32 0, Value.int .u32 0, Value.int .u32 0, Value.int .u32 0, Value.int .u32 0, Value.int .u32 0, Value.int .u32 0, Value.int .u32 0, Value.int .u32 0, Value.int .u32 0, Value.int .u32 0, Value.int .u32 0, Value.int .u32 0, Value.int .u32 0, Value.int .u32 0, Value.int .u32 0, Value.int .u32 0, Value.int .u32 0, Value.int .u32 0, Value.int .u32 0, Value.int .u32 0] := rfl
def schTo (b : Nat → Int) (k : Nat) : Nat → Int := fun i => if i < k then sch b i else 0
theorem schTo_succ (b : Nat → Int) (k : Nat) : updI (schTo b k) k (sch b k) = schTo b (k + 1) := by
 funext i
 unfold updI schTo
 by_cases h : i = k
 ·subst h; rw [if_pos rfl, if_pos (by omega)]
 ·rw [if_neg h]
  by_cases h2 : i < k
  ·rw [if_pos h2, if_pos (by omega)]
  ·rw [if_neg h2, if_neg (by omega)]
theorem spread_any (b : Nat → Int) (hb : ∀ i, i < 64 → 0 ≤ b i ∧ b i < 256) (w : World) :
  Calls Tryz.prog 142 #[.agg (arb 64 b).toArray] w fun e w' => e = .returned (.agg (arr 64 (sch b)).toArray) ∧ Below w.heap.size w w' := by
 have HB := Lib.hid hb
 have HSB := Lib.hid (sch_bd b hb)
 clear hb
 go_enter Tryz.func142, Tryz.ntmps142
 go_wp2_with fail
 go_loopw [8] (fun s8 wr => ∃ k : Nat, k ≤ 16 ∧ s8 = .int .i64 k ∧ Blk wr w.heap.size (arb 64 b).toArray ∧ Blk wr (w.heap.size + 1) (arr 64 fun _ => 0).toArray ∧ Blk wr (w.heap.size + 1 + 1) (arr 64 (schTo b k)).toArray ∧ Below w.heap.size w wr) (fun s8 _ => 16 - (intOf s8).toNat)
 case atStart =>
  rw [zero64w]
  exact ⟨0, by omega, rfl, ((Blk.new w _ _).alloc _).alloc _, (Blk.new' (by simp)).alloc _, by rw [show schTo b 0 = fun _ => 0 from by funext i; simp [schTo], zero64w]; exact Blk.new' (by simp), by (repeat (first | exact Below.refl _ _ | assumption | apply Below.drew | apply below_drewN | apply Below.allocS | (refine Below.setCell ?_ (by simp <;> omega) _) | (refine Below.alloc ?_ (by simp <;> omega) _) | (refine Below.trans ?_ (Below.mono (by assumption) (by simp <;> omega)))))⟩
 case round =>
  obtain ⟨k, hk, rfl, B, Z, W, hb⟩ := hrel
  rename_i wr
  by_cases hlt : k < 16
  ·have b0 := HB.out (4 * k) (by omega)
   have b1 := HB.out (4 * k + 1) (by omega)
   have b2 := HB.out (4 * k + 2) (by omega)
   have b3 := HB.out (4 * k + 3) (by omega)
   have c0 := B.cell (4 * k)
   rw [arb_at 64 b _ (by omega)] at c0
   have c1 := B.cell (4 * k + 1)
   rw [arb_at 64 b _ (by omega)] at c1
   have c2 := B.cell (4 * k + 2)
   rw [arb_at 64 b _ (by omega)] at c2
   have c3 := B.cell (4 * k + 3)
   rw [arb_at 64 b _ (by omega)] at c3
   have d0 := W.cell k
   rw [arr_at 64 _ _ (by omega)] at d0
   have d1 := W.froz
   have t0 : (4 * (k : Int)).toNat = 4 * k := by omega
   have t1 : (4 * (k : Int) + 1).toNat = 4 * k + 1 := by omega
   have t2 : (4 * (k : Int) + 2).toNat = 4 * k + 2 := by omega
   have t3 : (4 * (k : Int) + 3).toNat = 4 * k + 3 := by omega
   have i0 : IntKind.i64.wrap (4 * (k : Int)) = 4 * (k : Int) := by rw [IntKind.wrap_i64]; omega
   have i1 : IntKind.i64.wrap (4 * (k : Int) + 1) = 4 * (k : Int) + 1 := by rw [IntKind.wrap_i64]; omega
   have i2 : IntKind.i64.wrap (4 * (k : Int) + 2) = 4 * (k : Int) + 2 := by rw [IntKind.wrap_i64]; omega
   have i3 : IntKind.i64.wrap (4 * (k : Int) + 3) = 4 * (k : Int) + 3 := by rw [IntKind.wrap_i64]; omega
   generalize hx0 : b (4 * k) = x0 at *
   generalize hx1 : b (4 * k + 1) = x1 at *
   generalize hx2 : b (4 * k + 2) = x2 at *
   generalize hx3 : b (4 * k + 3) = x3 at *
   have HX0 := Lib.hid hx0
   have HX1 := Lib.hid hx1
   have HX2 := Lib.hid hx2
   have HX3 := Lib.hid hx3
   clear hx0 hx1 hx2 hx3
   go_wp2_with fail
   go_region
   go_wp2_with fail
   have hw4 : bits .or .u32 (bits .or .u32 (bits .or .u32 (x0 * 16777216) (x1 * 65536)) (x2 * 256)) x3 = sch b k := by
    rw [or4 x0 x1 x2 x3 (by omega) (by omega) (by omega) (by omega), sch, dif_pos hlt, word4, HX0.out, HX1.out, HX2.out, HX3.out]
   have W1 := (W.set k (.int .u32 (sch b k))).drew
   rw [arr_set, schTo_succ] at W1
   rw [hw4]
   exact ⟨⟨k + 1, by omega, by go_num, (B.other (by simp <;> omega) _).drew, (Z.other (by simp <;> omega) _).drew, W1, (hb.setCell (by simp <;> omega) _).drew⟩, by simp [intOf]; omega⟩
  ·have hke : k = 16 := by omega
   subst hke
   rw [show ((16 : Nat) : Int) = 16 from rfl]
   go_wp2_with fail
   go_loopw [5] (fun s5 wr => ∃ k : Nat, 16 ≤ k ∧ k ≤ 64 ∧ s5 = .int .i64 k ∧ Blk wr (w.heap.size + 1) (arr 64 fun _ => 0).toArray ∧ Blk wr (w.heap.size + 1 + 1) (arr 64 (schTo b k)).toArray ∧ Below w.heap.size w wr) (fun s5 _ => 64 - (intOf s5).toNat)
   case atStart => exact ⟨16, by omega, by omega, rfl, Z, W, hb⟩
   case round =>
    clear Z W hb B
    obtain ⟨k, hk0, hk, rfl, Z, W, hb⟩ := hrel
    rename_i wq
    by_cases hlt : k < 64
    ·have f0 : schTo b k (k - 16) = sch b (k - 16) := if_pos (by omega)
     have f1 : schTo b k (k - 15) = sch b (k - 15) := if_pos (by omega)
     have f2 : schTo b k (k - 7) = sch b (k - 7) := if_pos (by omega)
     have f3 : schTo b k (k - 2) = sch b (k - 2) := if_pos (by omega)
     have c0 := W.cell (k - 16)
     rw [arr_at 64 _ _ (by omega), f0] at c0
     have c1 := W.cell (k - 15)
     rw [arr_at 64 _ _ (by omega), f1] at c1
     have c2 := W.cell (k - 7)
     rw [arr_at 64 _ _ (by omega), f2] at c2
     have c3 := W.cell (k - 2)
     rw [arr_at 64 _ _ (by omega), f3] at c3
     have d0 := W.cell k
     rw [arr_at 64 _ _ (by omega)] at d0
     have d1 := W.froz
     have HS : Hid (sch b k = (sch b (k - 16) + sg0 (sch b (k - 15)) + sch b (k - 7) + sg1 (sch b (k - 2))) % 4294967296) := Lib.hid (by rw [sch, dif_neg (by omega)])
     obtain ⟨p0, p0'⟩ := HSB.out (k - 16)
     obtain ⟨p1, p1'⟩ := HSB.out (k - 15)
     obtain ⟨p2, p2'⟩ := HSB.out (k - 7)
     obtain ⟨p3, p3'⟩ := HSB.out (k - 2)
     have t0 : ((k : Int) - 16).toNat = k - 16 := by omega
     have t1 : ((k : Int) - 15).toNat = k - 15 := by omega
     have t2 : ((k : Int) - 7).toNat = k - 7 := by omega
     have t3 : ((k : Int) - 2).toNat = k - 2 := by omega
     have i0 : IntKind.i64.wrap ((k : Int) - 16) = (k : Int) - 16 := by rw [IntKind.wrap_i64]; omega
     have i1 : IntKind.i64.wrap ((k : Int) - 15) = (k : Int) - 15 := by rw [IntKind.wrap_i64]; omega
     have i2 : IntKind.i64.wrap ((k : Int) - 7) = (k : Int) - 7 := by rw [IntKind.wrap_i64]; omega
     have i3 : IntKind.i64.wrap ((k : Int) - 2) = (k : Int) - 2 := by rw [IntKind.wrap_i64]; omega
     have G0 := Lib.hid f0
     have G2 := Lib.hid f2
     clear f0 f1 f2 f3
     generalize sch b (k - 16) = x0 at *
     generalize sch b (k - 15) = x1 at *
     generalize sch b (k - 7) = x2 at *
     generalize sch b (k - 2) = x3 at *
     go_wp2_with fail
     go_quiet (fail)
     go_wp2_with fail
     refine wp_tail 29 (by kernel_rfl) (by kernel_rfl) ?_
     intro w2 hw2
     have W2 : Blk w2 (w.heap.size + 1 + 1) (arr 64 (schTo b k)).toArray := by rw [hw2]; exact (W.drewN _).drew
     have Z2 : Blk w2 (w.heap.size + 1) (arr 64 fun _ => 0).toArray := by rw [hw2]; exact (Z.drewN _).drew
     have hb2 : Below w.heap.size w w2 := by rw [hw2]; exact (below_drewN hb _).drew
     clear hw2 W Z hb c0 c1 c2 c3 d0 d1
     have c0 := W2.cell (k - 16)
     rw [arr_at 64 _ _ (by omega), G0.out] at c0
     have c2 := W2.cell (k - 7)
     rw [arr_at 64 _ _ (by omega), G2.out] at c2
     have d0 := W2.cell k
     rw [arr_at 64 _ _ (by omega)] at d0
     have d1 := W2.froz
     simp only [List.take_succ_cons, List.take_zero, List.drop_succ_cons, List.drop_zero]
     have q0 : (16 : Int) ≤ (k : Int) := by omega
     have q1 : (k : Int) - 16 < 64 := by omega
     have q2 : (7 : Int) ≤ (k : Int) := by omega
     have q3 : (k : Int) - 7 < 64 := by omega
     have q4 : (k : Int) < 64 := by omega
     repeat (first | still_step | still_call (rot_st _ _ (by omega) (by omega) (by omega) (by omega) _))
     refine wpStill_nil ?_
     go_wp2_with fail
     have W3 := W2.set k (.int .u32 (sch b k))
     rw [arr_set, schTo_succ] at W3
     rw [HS.out] at W3
     exact ⟨⟨k + 1, by omega, by omega, by go_num, Z2.other (by simp <;> omega) _, W3, hb2.setCell (by simp <;> omega) _⟩, by simp [intOf]; omega⟩
    ·have hke : k = 64 := by omega
     subst hke
     have hse : arr 64 (schTo b 64) = arr 64 (sch b) := arr_ext (fun i hi => if_pos hi)
     rw [hse] at W
     rw [zero64w] at Z
     go_wp2_with (first
      | (refine wpList_rowLoad row64w rfl (.tmp 3) rfl rfl (arr_len 64 _) W ?_)
      | (refine wpList_rowStore row64w rfl rfl (.tmp 2) (.tmp 84) rfl rfl rfl (arr_len 64 _) (arr_one 64 _) (by simp) Z ?_; intro w3 Z3 m3))
     refine bodyPost_ret (results_cell1 rfl _ _ _ _ rfl (row_loadVar row64w _ (arr_len 64 _) Z3)) rfl ?_
     exact ⟨rfl, Below.mod hb m3 (by have := hb.size; omega) (by simp)⟩
end Go.Proofs.YtjppbomngnomhaaGreatDoor
namespace Go.Proofs.YtjppbomngnomhaaGreatDoor
open Go.RowKit
def kList : List Int := [0x428a2f98, 0x71374491, 0xb5c0fbcf, 0xe9b5dba5, 0x3956c25b, 0x59f111f1, 0x923f82a4, 0xab1c5ed5,
 0xd807aa98, 0x12835b01, 0x243185be, 0x550c7dc3, 0x72be5d74, 0x80deb1fe, 0x9bdc06a7, 0xc19bf174,
 0xe49b69c1, 0xefbe4786, 0x0fc19dc6, 0x240ca1cc, 0x2de92c6f, 0x4a7484aa, 0x5cb0a9dc, 0x76f988da,
 0x983e5152, 0xa831c66d, 0xb00327c8, 0xbf597fc7, 0xc6e00bf3, 0xd5a79147, 0x06ca6351, 0x14292967,
 0x27b70a85, 0x2e1b2138, 0x4d2c6dfc, 0x53380d13, 0x650a7354, 0x766a0abb, 0x81c2c92e, 0x92722c85,
 0xa2bfe8a1, 0xa81a664b, 0xc24b8b70, 0xc76c51a3, 0xd192e819, 0xd6990624, 0xf40e3585, 0x106aa070,
 0x19a4c116, 0x1e376c08, 0x2748774c, 0x34b0bcb5, 0x391c0cb3, 0x4ed8aa4a, 0x5b9cca4f, 0x682e6ff3,
 0x748f82ee, 0x78a5636f, 0x84c87814, 0x8cc70208, 0x90befffa, 0xa4506ceb, 0xbef9a3f7, 0xc67178f2]
def kc (i : Nat) : Int := kList.getD i 0
theorem kc_bd (i : Nat) : W32 (kc i) := by
 by_cases h : i < 64
 ·have : ∀ i : Fin 64, 0 ≤ kc i.1 ∧ kc i.1 < 4294967296 := by decide +kernel
  exact this ⟨i, h⟩
 ·unfold kc
  rw [List.getD_eq_getElem?_getD, List.getElem?_eq_none (by simp [kList]; omega)]
  exact ⟨by decide, by decide⟩
structure KT (w : World) : Prop where
 cell : ∀ i, i < 64 → w.cell? ⟨0, i, none⟩ = some (.int .u32 (kc i))
 lt : 0 < w.heap.size
theorem KT.keep {W w : World} (h : KT W) (hb : Below W.heap.size W w) : KT w :=
 ⟨fun i hi => (hb.cell (p := ⟨0, i, none⟩) h.lt).trans (h.cell i hi), Nat.lt_of_lt_of_le h.lt hb.size⟩
theorem zero8w : (arr 8 fun _ => 0).toArray = #[Value.int .u32 0, Value.int .u32 0, Value.int .u32 0, Value.int .u32 0, Value.int .u32 0, Value.int .u32 0, Value.int .u32 0, Value.int .u32 0] := rfl
def chI (e f g : Int) : Int := bits .xor .u32 (bits .and .u32 e f) (bits .and .u32 (bits .xor .u32 IntKind.u32.max e) g)
def majI (a b c : Int) : Int := bits .xor .u32 (bits .xor .u32 (bits .and .u32 a b) (bits .and .u32 a c)) (bits .and .u32 b c)
def rnd (k w : Int) (v : Nat → Int) : Nat → Int
 | 0 => (v 7 + bS1 (v 4) + chI (v 4) (v 5) (v 6) + k + w + (bS0 (v 0) + majI (v 0) (v 1) (v 2))) % 4294967296
 | 1 => v 0
 | 2 => v 1
 | 3 => v 2
 | 4 => (v 3 + (v 7 + bS1 (v 4) + chI (v 4) (v 5) (v 6) + k + w)) % 4294967296
 | 5 => v 4
 | 6 => v 5
 | 7 => v 6
 | _ => 0
def rds (h b : Nat → Int) : Nat → Nat → Int
 | 0 => h
 | n + 1 => rnd (kc n) (sch b n) (rds h b n)
theorem mod_bd (x : Int) : W32 (x % 4294967296) := ⟨Int.emod_nonneg _ (by omega), Int.emod_lt_of_pos _ (by omega)⟩
theorem rnd_bd (k w : Int) (v : Nat → Int) (hv : ∀ i, W32 (v i)) (i : Nat) : W32 (rnd k w v i) := by
 unfold rnd
 split <;> first | exact mod_bd _ | exact hv _ | exact ⟨by omega, by omega⟩
theorem rds_bd (h b : Nat → Int) (hh : ∀ i, W32 (h i)) (n : Nat) : ∀ i, W32 (rds h b n i) := by
 induction n with
 | zero => exact hh
 | succ n ih => exact rnd_bd _ _ _ ih
def blk (h b : Nat → Int) (i : Nat) : Int := (rds h b 64 i + h i) % 4294967296
theorem blk_bd (h b : Nat → Int) (i : Nat) : W32 (blk h b i) := mod_bd _
def blkTo (h b : Nat → Int) (k : Nat) (i : Nat) : Int := if i < k then blk h b i else rds h b 64 i
theorem blkTo_succ (h b : Nat → Int) (k : Nat) : updI (blkTo h b k) k (blk h b k) = blkTo h b (k + 1) := by
 funext i
 unfold updI blkTo
 by_cases e : i = k
 ·subst e; rw [if_pos rfl, if_pos (by omega)]
 ·rw [if_neg e]
  by_cases h2 : i < k
  ·rw [if_pos h2, if_pos (by omega)]
  ·rw [if_neg h2, if_neg (by omega)]
theorem block_any (g b : Nat → Int) (hh : ∀ i, W32 (g i)) (hb : ∀ i, i < 64 → 0 ≤ b i ∧ b i < 256) (w : World) (hk0 : KT w) :
  Calls Tryz.prog 139 #[.agg (arr 8 g).toArray, .agg (arb 64 b).toArray] w fun e w' => e = .returned (.agg (arr 8 (blk g b)).toArray) ∧ Below w.heap.size w w' := by
 have HB := Lib.hid hb
 have HH := Lib.hid hh
 clear hb hh
 have HW := Lib.hid (sch_bd b HB.out)
 have H0 := (Blk.new w (arr 8 g).toArray 118).alloc (.cells (arb 64 b).toArray 120)
 have B0 : Blk ((w.alloc (.cells (arr 8 g).toArray 118)).alloc (.cells (arb 64 b).toArray 120)) (w.heap.size + 1) (arb 64 b).toArray := Blk.new' (by simp)
 go_enter Tryz.func139, Tryz.ntmps139
 have B1 := B0.alloc (.cells #[Value.int .u32 0, Value.int .u32 0, Value.int .u32 0, Value.int .u32 0, Value.int .u32 0, Value.int .u32 0, Value.int .u32 0, Value.int .u32 0] 118)
 go_wp2_with (refine wpList_rowLoad row64b rfl (.tmp 3) rfl rfl (arb_len 64 _) B1 ?_)
 refine (spread_any b HB.out _).mono ?_
 rintro e w1 ⟨rfl, hb1⟩
 have H1 := (H0.alloc (.cells #[Value.int .u32 0, Value.int .u32 0, Value.int .u32 0, Value.int .u32 0, Value.int .u32 0, Value.int .u32 0, Value.int .u32 0, Value.int .u32 0] 118)).keep hb1
 have hb2 : Below w.heap.size w w1 := (Below.allocS (Below.allocS (Below.allocS (Below.refl _ w) (.cells (arr 8 g).toArray 118)) (.cells (arb 64 b).toArray 120)) (.cells #[Value.int .u32 0, Value.int .u32 0, Value.int .u32 0, Value.int .u32 0, Value.int .u32 0, Value.int .u32 0, Value.int .u32 0, Value.int .u32 0] 118)).trans (hb1.mono (by simp; omega))
 have R1 : Blk w1 (w.heap.size + 1 + 1) (arr 8 fun _ => 0).toArray := by rw [zero8w]; exact (Blk.new' (by simp)).keep hb1
 have hs1 : w.heap.size + 1 + 1 < w1.heap.size := R1.lt
 clear H0 B0 B1 hb1
 go_wp2_with (first
  | (refine wpList_rowStore row64w rfl rfl (.tmp 5) (.tmp 14) rfl rfl rfl (arr_len 64 _) (arr_one 64 _) (us := (arr 64 fun _ => 0)) (by simp) (by rw [zero64w]; exact Blk.new' (by simp)) ?_; intro w2 S2 m2; have H2 := (H1.alloc _).mod m2 (by simp; omega))
  | (refine wpList_rowLoad row8w rfl (.tmp 2) rfl rfl (arr_len 8 g) (by assumption) ?_)
  | (refine wpList_rowStore row8w rfl rfl (.tmp 6) (.tmp 15) rfl rfl rfl (arr_len 8 _) (arr_one 8 _) (us := (arr 8 fun _ => 0)) (by simp) (by rw [zero8w]; exact Blk.new' (by simp)) ?_; intro w3 V3 m3))
 have R3 := ((R1.alloc (.cells #[Value.int .u32 0, Value.int .u32 0, Value.int .u32 0, Value.int .u32 0, Value.int .u32 0, Value.int .u32 0, Value.int .u32 0, Value.int .u32 0, Value.int .u32 0, Value.int .u32 0, Value.int .u32 0, Value.int .u32 0, Value.int .u32 0, Value.int .u32 0, Value.int .u32 0, Value.int .u32 0, Value.int .u32 0, Value.int .u32 0, Value.int .u32 0, Value.int .u32 0, Value.int .u32 0, Value.int .u32 0, Value.int .u32 0, Value.int .u32 0, Value.int .u32 0, Value.int .u32 0, Value.int .u32 0, Value.int .u32 0, Value.int .u32 0, Value.int .u32 0, Value.int .u32 0, Value.int .u32 0, Value.int .u32 0, Value.int .u32 0, Value.int .u32 0, Value.int .u32 0, Value.int .u32 0, Value.int .u32 0, Value.int .u32 0, Value.int .u32 0, Value.int .u32 0, Value.int .u32 0, Value.int .u32 0, Value.int .u32 0, Value.int .u32 0, Value.int .u32 0, Value.int .u32 0, Value.int .u32 0, Value.int .u32 0, Value.int .u32 0, Value.int .u32 0, Value.int .u32 0, Value.int .u32 0, Value.int .u32 0, Value.int .u32 0, Value.int .u32 0, Value.int .u32 0, Value.int .u32 0, Value.int .u32 0, Value.int .u32 0, Value.int .u32 0, Value.int .u32 0, Value.int .u32 0, Value.int .u32 0] 163)).mod m2 (by simp; omega))
 have R4 := ((R3.alloc (.cells #[Value.int .u32 0, Value.int .u32 0, Value.int .u32 0, Value.int .u32 0, Value.int .u32 0, Value.int .u32 0, Value.int .u32 0, Value.int .u32 0] 118)).mod m3 (by simp; have := S2.lt; omega))
 have S4 := ((S2.alloc (.cells #[Value.int .u32 0, Value.int .u32 0, Value.int .u32 0, Value.int .u32 0, Value.int .u32 0, Value.int .u32 0, Value.int .u32 0, Value.int .u32 0] 118)).mod m3 (by simp; have := S2.lt; omega))
 have H4 := ((H2.alloc (.cells #[Value.int .u32 0, Value.int .u32 0, Value.int .u32 0, Value.int .u32 0, Value.int .u32 0, Value.int .u32 0, Value.int .u32 0, Value.int .u32 0] 118)).mod m3 (by simp; have := S2.lt; omega))
 have hb4 : Below w.heap.size w w3 := Below.mod (Below.allocS (Below.mod (Below.allocS hb2 (.cells #[Value.int .u32 0, Value.int .u32 0, Value.int .u32 0, Value.int .u32 0, Value.int .u32 0, Value.int .u32 0, Value.int .u32 0, Value.int .u32 0, Value.int .u32 0, Value.int .u32 0, Value.int .u32 0, Value.int .u32 0, Value.int .u32 0, Value.int .u32 0, Value.int .u32 0, Value.int .u32 0, Value.int .u32 0, Value.int .u32 0, Value.int .u32 0, Value.int .u32 0, Value.int .u32 0, Value.int .u32 0, Value.int .u32 0, Value.int .u32 0, Value.int .u32 0, Value.int .u32 0, Value.int .u32 0, Value.int .u32 0, Value.int .u32 0, Value.int .u32 0, Value.int .u32 0, Value.int .u32 0, Value.int .u32 0, Value.int .u32 0, Value.int .u32 0, Value.int .u32 0, Value.int .u32 0, Value.int .u32 0, Value.int .u32 0, Value.int .u32 0, Value.int .u32 0, Value.int .u32 0, Value.int .u32 0, Value.int .u32 0, Value.int .u32 0, Value.int .u32 0, Value.int .u32 0, Value.int .u32 0, Value.int .u32 0, Value.int .u32 0, Value.int .u32 0, Value.int .u32 0, Value.int .u32 0, Value.int .u32 0, Value.int .u32 0, Value.int .u32 0, Value.int .u32 0, Value.int .u32 0, Value.int .u32 0, Value.int .u32 0, Value.int .u32 0, Value.int .u32 0, Value.int .u32 0, Value.int .u32 0] 163)) m2 (by simp; omega) (by simp; omega)) (.cells #[Value.int .u32 0, Value.int .u32 0, Value.int .u32 0, Value.int .u32 0, Value.int .u32 0, Value.int .u32 0, Value.int .u32 0, Value.int .u32 0] 118)) m3 (by simp; have := S2.lt; omega) (by simp; have := S2.lt; omega)
 have hs2 := S2.lt
 have hn1 : w1.heap.size ≠ w.heap.size := by omega
 have hn2 : w2.heap.size ≠ w.heap.size := by omega
 have hn3 : w2.heap.size ≠ w1.heap.size := by omega
 have hn4 : w2.heap.size ≠ w.heap.size + 1 + 1 := by omega
 clear m2 m3 R1 R3 S2 H1 H2 hb2
 have hk4 := hk0.keep hb4
 generalize hp : w1.heap.size = p at *
 generalize hq : w2.heap.size = q at *
 clear hp hq
 have HN := Lib.hid (And.intro hn1 (And.intro hn2 (And.intro hn3 (And.intro hn4 (And.intro hs1 hs2)))))
 clear hn1 hn2 hn3 hn4 hs1 hs2
 go_loopw [16] (fun s16 wr => ∃ k : Nat, k ≤ 64 ∧ s16 = .int .i64 k ∧ Blk wr p (arr 64 (sch b)).toArray ∧ Blk wr q (arr 8 (rds g b k)).toArray ∧ Blk wr w.heap.size (arr 8 g).toArray ∧ Blk wr (w.heap.size + 1 + 1) (arr 8 fun _ => 0).toArray ∧ Below w.heap.size w wr ∧ KT wr) (fun s16 _ => 64 - (intOf s16).toNat)
 case atStart => exact ⟨0, by omega, rfl, S4, V3, H4, R4, hb4, hk4⟩
 case round =>
  clear S4 V3 H4 R4 hb4 hk4
  obtain ⟨k, hk, rfl, S, V, HB8, R, hb, hkt⟩ := hrel
  rename_i wr
  by_cases hlt : k < 64
  ·have v0 := V.cell 0
   have v1 := V.cell 1
   have v2 := V.cell 2
   have v3 := V.cell 3
   have v4 := V.cell 4
   have v5 := V.cell 5
   have v6 := V.cell 6
   have v7 := V.cell 7
   rw [arr_at 8 _ _ (by omega)] at v0 v1 v2 v3 v4 v5 v6 v7
   have s0 := S.cell k
   rw [arr_at 64 _ _ (by omega)] at s0
   have g0 := hkt.cell k hlt
   have x0 := rds_bd g b HH.out k 0
   have x1 := rds_bd g b HH.out k 1
   have x2 := rds_bd g b HH.out k 2
   have x3 := rds_bd g b HH.out k 3
   have x4 := rds_bd g b HH.out k 4
   have x5 := rds_bd g b HH.out k 5
   have x6 := rds_bd g b HH.out k 6
   have x7 := rds_bd g b HH.out k 7
   obtain ⟨y0, y0'⟩ := HW.out k
   obtain ⟨z0, z0'⟩ := kc_bd k
   obtain ⟨x0, x0'⟩ := x0
   obtain ⟨x1, x1'⟩ := x1
   obtain ⟨x2, x2'⟩ := x2
   obtain ⟨x3, x3'⟩ := x3
   obtain ⟨x4, x4'⟩ := x4
   obtain ⟨x5, x5'⟩ := x5
   obtain ⟨x6, x6'⟩ := x6
   obtain ⟨x7, x7'⟩ := x7
   have hlt' : (k : Int) < 64 := by omega
   have HR : Hid (rds g b (k + 1) = rnd (kc k) (sch b k) (rds g b k)) := Lib.hid rfl
   have H8 : Hid ((arr 8 (rds g b (k + 1))).toArray = #[.int .u32 ((rds g b k 7 + bS1 (rds g b k 4) + chI (rds g b k 4) (rds g b k 5) (rds g b k 6) + kc k + sch b k + (bS0 (rds g b k 0) + majI (rds g b k 0) (rds g b k 1) (rds g b k 2))) % 4294967296), .int .u32 (rds g b k 0), .int .u32 (rds g b k 1), .int .u32 (rds g b k 2), .int .u32 ((rds g b k 3 + (rds g b k 7 + bS1 (rds g b k 4) + chI (rds g b k 4) (rds g b k 5) (rds g b k 6) + kc k + sch b k)) % 4294967296), .int .u32 (rds g b k 4), .int .u32 (rds g b k 5), .int .u32 (rds g b k 6)]) := Lib.hid rfl
   generalize sch b k = wc at *
   generalize kc k = kk at *
   generalize rds g b k 0 = a0 at *
   generalize rds g b k 1 = a1 at *
   generalize rds g b k 2 = a2 at *
   generalize rds g b k 3 = a3 at *
   generalize rds g b k 4 = a4 at *
   generalize rds g b k 5 = a5 at *
   generalize rds g b k 6 = a6 at *
   generalize rds g b k 7 = a7 at *
   go_wp2_with fail
   go_quiet (fail)
   go_wp2_with fail
   go_quiet ((go_at_call 143; exact quietD (rot_any _ _ (by omega) (by omega) (by omega) (by omega))))
   go_wp2_with fail
   go_quiet ((go_at_call 143; exact quietD (rot_any _ _ (by omega) (by omega) (by omega) (by omega))))
   go_wp2_with (refine wpList_rowStore row8w rfl rfl (.tmp 6) (.tmp 94) rfl rfl rfl rfl (by simp [Value.oneCell']) (us := arr 8 _) (arr_len 8 _) (V.drewN _) ?_; intro w5 V5 m5)
   have V6 : Blk w5 q (arr 8 (rds g b (k + 1))).toArray := by rw [H8.out]; exact V5
   obtain ⟨n1, n2, n3, n4, n5, n6⟩ := HN.out
   have hb6 := Below.mod (below_drewN hb _) m5 (by simp; exact hb.size) (by simp; omega)
   exact ⟨⟨k + 1, by omega, by go_num, (S.drewN _).mod m5 (by simp; omega), V6, (HB8.drewN _).mod m5 (by simp; omega), (R.drewN _).mod m5 (by simp; omega), hb6, hk0.keep hb6⟩, by simp [intOf]; omega⟩
  ·have hke : k = 64 := by omega
   subst hke
   rw [show ((64 : Nat) : Int) = 64 from rfl]
   go_wp2_with fail
   go_loopw [96] (fun s96 wr => ∃ k : Nat, k ≤ 8 ∧ s96 = .int .i64 k ∧ Blk wr q (arr 8 (blkTo g b k)).toArray ∧ Blk wr w.heap.size (arr 8 g).toArray ∧ Blk wr (w.heap.size + 1 + 1) (arr 8 fun _ => 0).toArray ∧ Below w.heap.size w wr) (fun s96 _ => 8 - (intOf s96).toNat)
   case atStart => exact ⟨0, by omega, rfl, by rw [show blkTo g b 0 = rds g b 64 from by funext i; simp [blkTo]]; exact V, HB8, R, hb⟩
   case round =>
    clear S V HB8 R hb hkt
    obtain ⟨k, hk, rfl, V, HB8, R, hb⟩ := hrel
    rename_i wq
    by_cases hlt : k < 8
    ·have hlt' : (k : Int) < 8 := by omega
     have v0 := V.cell k
     rw [arr_at 8 _ _ (by omega)] at v0
     have d1 := V.froz
     have u0 := HB8.cell k
     rw [arr_at 8 _ _ (by omega)] at u0
     have HE : Hid (blk g b k = (blkTo g b k k + g k) % 4294967296) := Lib.hid (by simp [blkTo, blk])
     have x0 : W32 (blkTo g b k k) := by simp only [blkTo]; rw [if_neg (by omega)]; exact rds_bd g b HH.out 64 k
     obtain ⟨x0, x0'⟩ := x0
     obtain ⟨y0, y0'⟩ := HH.out k
     have V1 := V.set k (.int .u32 (blk g b k))
     rw [arr_set, blkTo_succ, HE.out] at V1
     obtain ⟨n1, n2, n3, n4, n5, n6⟩ := HN.out
     have HV := Lib.hid V1
     clear V1
     generalize blkTo g b k k = a at *
     generalize g k = c at *
     go_wp2_with fail
     go_region
     all_goals go_wp2_with fail
     all_goals exact ⟨⟨k + 1, by omega, by go_num, HV.out.drew, (HB8.other (by simp; omega) _).drew, (R.other (by simp; omega) _).drew, (hb.setCell (by simp; omega) _).drew⟩, by simp [intOf]; omega⟩
    ·have hke : k = 8 := by omega
     subst hke
     have hse : arr 8 (blkTo g b 8) = arr 8 (blk g b) := arr_ext (fun i hi => if_pos hi)
     rw [hse] at V
     go_wp2_with (first
      | (refine wpList_rowLoad row8w rfl (.tmp 6) rfl rfl (arr_len 8 _) V ?_)
      | (refine wpList_rowStore row8w rfl rfl (.tmp 4) (.tmp 108) rfl rfl rfl (arr_len 8 _) (arr_one 8 _) (arr_len 8 _) R ?_; intro w6 R6 m6))
     refine bodyPost_ret (results_cell1 rfl _ _ _ _ rfl (row_loadVar row8w _ (arr_len 8 _) R6)) rfl ?_
     exact ⟨rfl, Below.mod hb m6 (by have := hb.size; omega) (by simp; omega)⟩
end Go.Proofs.YtjppbomngnomhaaGreatDoor
namespace Go.Proofs.YtjppbomngnomhaaGreatDoor
open Go.RowKit
def BS (w : World) (v : Value) (l : List UInt8) : Prop :=
 (v = .slice none 0 0 ∧ l = []) ∨ ∃ g off cap, v = .slice (some ⟨g, off, none⟩) l.length cap ∧ l.length ≤ cap ∧ cap ≤ maxLen ∧ g < w.heap.size ∧ BSrc w g off l
theorem BRow.bs {w : World} {base : Nat} {v : Value} {l : List UInt8} (h : BRow w base v l) : BS w v l := by
 rcases h.cells with h | ⟨g, cap, h1, h2, h3, h4, h5, h6, h7⟩
 ·exact .inl h
 ·exact .inr ⟨g, 0, cap, h1, h4, h5, h3, fun i hi => by rw [Nat.zero_add]; exact h6 i hi⟩
theorem BRow.mono {w : World} {b b' : Nat} {v : Value} {l : List UInt8} (h : BRow w b v l) (hb : b' ≤ b) : BRow w b' v l := by
 refine ⟨h.1, h.2.imp id ?_⟩
 rintro ⟨g, cap, cur, hv, h1, h2⟩
 exact ⟨g, cap, cur, hv, Nat.le_trans hb h1, h2⟩
theorem BS.len {w : World} {v : Value} {l : List UInt8} (h : BS w v l) : ∃ a c, v = .slice a l.length c := by
 rcases h with ⟨rfl, rfl⟩ | ⟨g, off, cap, rfl, _⟩
 ·exact ⟨none, 0, rfl⟩
 ·exact ⟨_, cap, rfl⟩
section
variable {ops : Array Oper} {o : Oper} {a : Act} {w : World} {Q : Exit → Act → World → Prop}
theorem wp_appBS {K : Act → World → Prop} (s x : Operand)
  (ho : o.op = .call { callee := .builtin .append, args := #[s, x], argTypes := #[59, 59] })
  (base : Nat) (v : Value) (l : List UInt8) (hs : a.eval s = v) (hown : BRow w base v l)
  (u : Value) (news : List UInt8) (hx : a.eval x = u) (hsrc : BS w u news)
  (hlen : l.length + news.length ≤ 140737488355328) (hbase : base ≤ w.heap.size)
  (h : ∀ v' w', BRow w' base v' (l ++ news) → w.grownBy w' v.ownBlock → K (a.put o.dst v') w') : o.wp Tryz.prog a w K Q := by
 obtain ⟨i0, hi, hz0, hz1, hz2⟩ := info_parts infoU8
 rcases hsrc with ⟨rfl, rfl⟩ | ⟨g, off, cap, rfl, h1, h2, h3, h4⟩
 ·obtain ⟨v', w', hr, h2, h3⟩ : ∃ v' w', (Builtin.append_ #[59, 59] o.type #[v, .slice none 0 0]).run Tryz.prog w = .ok v' w' ∧ BRow w' base v' l ∧ w.grownBy w' v.ownBlock := by
   rcases hown.cells with ⟨rfl, rfl⟩ | ⟨g, cap, rfl, q1, q2, q3, q4, q5, q6⟩
   ·refine ⟨.slice none 0 0, w, ?_, BRow.nil _ _, ⟨rfl, rfl, rfl, Nat.le_refl _, fun _ _ _ => rfl⟩⟩
    simp [Builtin.append_, run_underlying Tryz.underlying59, sizeOf, typeInfo, hi, hz1, Builtin.lenOf, Builtin.firstCells]
   ·refine ⟨.slice (some ⟨g, 0, none⟩) l.length cap, w, ?_, hown, ⟨rfl, rfl, rfl, Nat.le_refl _, fun _ _ _ => rfl⟩⟩
    simp [Builtin.append_, run_underlying Tryz.underlying59, sizeOf, typeInfo, hi, hz1, Builtin.lenOf, Builtin.firstCells, q3, storeCells]
  unfold Oper.wp execOp
  simp only [ho, resolve, invoke, builtin, Sem.run_bind, Sem.run_pure, Result.andThen_ok, List.map_toArray, List.map_cons, List.map_nil, hs, hx, hr]
  exact h v' w' (by rw [List.append_nil]; exact h2) h3
 ·refine wp_append_own w s x 59 ho base 5 i0 (.int .u8 0) 1 1 Tryz.underlying59 hi hz0 hz1 hz2 rfl (by decide) v l.length (bv l) hs hown ⟨g, off, none⟩ news.length cap (bv news) hx (by rw [bv_len]; omega) (bsrc_news h4) (bone news)
   (by unfold maxLen; omega) (by omega) hbase (fun v' w' h2 h3 _ => h v' w' ?_ h3)
  unfold BRow
  rw [List.length_append, show bv (l ++ news) = bv l ++ bv news from by simp [bv]]
  exact h2
theorem wpList_appBS {rest : List Oper} (hgd : o.guard = none) (s x : Operand)
  (ho : o.op = .call { callee := .builtin .append, args := #[s, x], argTypes := #[59, 59] })
  (base : Nat) (v : Value) (l : List UInt8) (hs : a.eval s = v) (hown : BRow w base v l)
  (u : Value) (news : List UInt8) (hx : a.eval x = u) (hsrc : BS w u news)
  (hlen : l.length + news.length ≤ 140737488355328) (hbase : base ≤ w.heap.size)
  (h : ∀ v' w', BRow w' base v' (l ++ news) → w.grownBy w' v.ownBlock → wpList Tryz.prog ops Q rest (a.put o.dst v') w') : wpList Tryz.prog ops Q (o :: rest) a w :=
 wpList_plain hgd fun _ hK => wp_appBS s x ho base v l hs hown u news hx hsrc hlen hbase fun v' w' h2 h3 => hK _ _ (h v' w' h2 h3)
theorem step_appBS {K : Act → World → Prop} {E : Prop} (hgd : o.guard = none) (s x : Operand)
  (ho : o.op = .call { callee := .builtin .append, args := #[s, x], argTypes := #[59, 59] })
  (base : Nat) (v : Value) (l : List UInt8) (hs : a.eval s = v) (hown : BRow w base v l)
  (u : Value) (news : List UInt8) (hx : a.eval x = u) (hsrc : BS w u news)
  (hlen : l.length + news.length ≤ 140737488355328) (hbase : base ≤ w.heap.size)
  (h : ∀ v' w', BRow w' base v' (l ++ news) → w.grownBy w' v.ownBlock → K (a.put o.dst v') w') :
  if Region.wanted o (yielded ops a.tmps) = true then Oper.wp Tryz.prog o a w K Q else E := by
 have hw : Region.wanted o (yielded ops a.tmps) = true := by simp [Region.wanted, hgd]
 rw [if_pos hw]
 exact wp_appBS s x ho base v l hs hown u news hx hsrc hlen hbase h
theorem wp_appBT {K : Act → World → Prop} (s x : Operand)
  (ho : o.op = .call { callee := .builtin .append, args := #[s, x], argTypes := #[59, 9] })
  (base : Nat) (v : Value) (l : List UInt8) (hs : a.eval s = v) (hown : BRow w base v l)
  (news : List UInt8) (hx : a.eval x = .string ⟨List.toArray news⟩)
  (hlen : l.length + news.length ≤ 140737488355328) (hbase : base ≤ w.heap.size)
  (h : ∀ v' w', BRow w' base v' (l ++ news) → w.grownBy w' v.ownBlock → K (a.put o.dst v') w') : o.wp Tryz.prog a w K Q := by
 obtain ⟨i0, hi, hz0, hz1, hz2⟩ := info_parts infoU8
 have hsz : (⟨news.toArray⟩ : ByteArray).size = news.length := by simp [ByteArray.size]
 obtain ⟨v', w', hr, h2, h3, _⟩ := Lib.run_append_own_string (P := Tryz.prog) w base 59 9 o.type 5 i0 Tryz.underlying59 Tryz.underlying9 hi hz0 hz1 hz2 v l.length (bv l) hown ⟨news.toArray⟩ (by rw [hsz]; unfold maxLen; omega) (by rw [hsz]; omega) hbase
 unfold Oper.wp execOp
 simp only [ho, resolve, invoke, builtin, Sem.run_bind, Sem.run_pure, Result.andThen_ok, List.map_toArray, List.map_cons, List.map_nil, hs, hx, hr]
 refine h v' w' ?_ h3
 unfold BRow
 rw [List.length_append, show bv (l ++ news) = bv l ++ bv news from by simp [bv]]
 rw [hsz] at h2
 exact h2
theorem step_appBT {K : Act → World → Prop} {E : Prop} (hgd : o.guard = none) (s x : Operand)
  (ho : o.op = .call { callee := .builtin .append, args := #[s, x], argTypes := #[59, 9] })
  (base : Nat) (v : Value) (l : List UInt8) (hs : a.eval s = v) (hown : BRow w base v l)
  (news : List UInt8) (hx : a.eval x = .string ⟨List.toArray news⟩)
  (hlen : l.length + news.length ≤ 140737488355328) (hbase : base ≤ w.heap.size)
  (h : ∀ v' w', BRow w' base v' (l ++ news) → w.grownBy w' v.ownBlock → K (a.put o.dst v') w') :
  if Region.wanted o (yielded ops a.tmps) = true then Oper.wp Tryz.prog o a w K Q else E := by
 have hw : Region.wanted o (yielded ops a.tmps) = true := by simp [Region.wanted, hgd]
 rw [if_pos hw]
 exact wp_appBT s x ho base v l hs hown news hx hlen hbase h
end
theorem grown_nil {w w' : World} (hg : w.grownBy w' none) : Below w.heap.size w w' := grown_below hg (Nat.le_refl _) (fun k hk => by cases hk)
theorem ownBlock_lt {w : World} {base : Nat} {v : Value} {l : List UInt8} (h : BRow w base v l) : ∀ k, v.ownBlock = some k → base ≤ k ∧ k < w.heap.size := by
 intro k hk
 rcases h.cells with ⟨rfl, _⟩ | ⟨g, cap, rfl, hb, hg, _⟩
 ·cases hk
 ·cases hk; exact ⟨hb, hg⟩
end Go.Proofs.YtjppbomngnomhaaGreatDoor
namespace Go.Proofs.YtjppbomngnomhaaGreatDoor
open Go.RowKit
def firstW (i : Nat) : Int := [0x6a09e667, 0xbb67ae85, 0x3c6ef372, 0xa54ff53a, 0x510e527f, 0x9b05688c, 0x1f83d9ab, 0x5be0cd19].getD i 0
theorem firstW_bd (i : Nat) : W32 (firstW i) := by
 by_cases h : i < 8
 ·have : ∀ i : Fin 8, 0 ≤ firstW i.1 ∧ firstW i.1 < 4294967296 := by decide
  exact this ⟨i, h⟩
 ·unfold firstW
  rw [List.getD_eq_getElem?_getD, List.getElem?_eq_none (by simp; omega)]
  exact ⟨by decide, by decide⟩
def byteAt (h : Nat → Int) (j : Nat) : Int := h (j / 4) / (if j % 4 = 0 then 16777216 else if j % 4 = 1 then 65536 else if j % 4 = 2 then 256 else 1) % 256
def toldP (h : Nat → Int) : List UInt8 := (List.range 32).map fun j => UInt8.ofNat (byteAt h j).toNat
theorem toldP_len (h : Nat → Int) : (toldP h).length = 32 := by simp [toldP]
def tb (h : Nat → Int) (k : Nat) : Nat → Int := fun j => if j < 4 * k then byteAt h j else 0
theorem tb_succ (h : Nat → Int) (k : Nat) : updI (updI (updI (updI (tb h k) (4 * k) (byteAt h (4 * k))) (4 * k + 1) (byteAt h (4 * k + 1))) (4 * k + 2) (byteAt h (4 * k + 2))) (4 * k + 3) (byteAt h (4 * k + 3)) = tb h (k + 1) := by
 funext j
 unfold updI tb
 by_cases h3 : j = 4 * k + 3
 ·subst h3; rw [if_pos rfl, if_pos (by omega)]
 rw [if_neg h3]
 by_cases h2 : j = 4 * k + 2
 ·subst h2; rw [if_pos rfl, if_pos (by omega)]
 rw [if_neg h2]
 by_cases h1 : j = 4 * k + 1
 ·subst h1; rw [if_pos rfl, if_pos (by omega)]
 rw [if_neg h1]
 by_cases h0 : j = 4 * k
 ·subst h0; rw [if_pos rfl, if_pos (by omega)]
 rw [if_neg h0]
 by_cases hl : j < 4 * k
 ·rw [if_pos hl, if_pos (by omega)]
 ·rw [if_neg hl, if_neg (by omega)]
theorem byteAt_bd (h : Nat → Int) (j : Nat) : 0 ≤ byteAt h j ∧ byteAt h j < 256 := ⟨Int.emod_nonneg _ (by omega), Int.emod_lt_of_pos _ (by omega)⟩
theorem byteAt_0 (h : Nat → Int) (k : Nat) : byteAt h (4 * k) = h k / 16777216 % 256 := by
 unfold byteAt
 rw [show 4 * k / 4 = k from by omega, if_pos (by omega)]
theorem byteAt_1 (h : Nat → Int) (k : Nat) : byteAt h (4 * k + 1) = h k / 65536 % 256 := by
 unfold byteAt
 rw [show (4 * k + 1) / 4 = k from by omega, if_neg (by omega), if_pos (by omega)]
theorem byteAt_2 (h : Nat → Int) (k : Nat) : byteAt h (4 * k + 2) = h k / 256 % 256 := by
 unfold byteAt
 rw [show (4 * k + 2) / 4 = k from by omega, if_neg (by omega), if_neg (by omega), if_pos (by omega)]
theorem byteAt_3 (h : Nat → Int) (k : Nat) : byteAt h (4 * k + 3) = h k % 256 := by
 unfold byteAt
 rw [show (4 * k + 3) / 4 = k from by omega, if_neg (by omega), if_neg (by omega), if_neg (by omega), Int.ediv_one]
theorem first_lit : (arr 8 firstW).toArray = #[.int .u32 1779033703, .int .u32 3144134277, .int .u32 1013904242, .int .u32 2773480762, .int .u32 1359893119, .int .u32 2600822924, .int .u32 528734635, .int .u32 1541459225] := rfl
theorem first_any (w : World) : Calls Tryz.prog 123 #[] w fun e w' => e = .returned (.agg (arr 8 firstW).toArray) ∧ Below w.heap.size w w' := by
 go_enter Tryz.func123, Tryz.ntmps123
 go_wp2_with (refine wpList_rowStore row8w rfl rfl (.tmp 0) (.tmp 1) rfl rfl (vs := arr 8 firstW) rfl (arr_len 8 _) (arr_one 8 _) (us := (arr 8 fun _ => 0)) (arr_len 8 _) (by rw [zero8w]; exact Blk.new' (by simp)) ?_; intro w2 S2 m2)
 refine bodyPost_ret (results_cell1 rfl _ _ _ _ rfl (row_loadVar row8w _ (arr_len 8 _) S2)) rfl ?_
 exact ⟨rfl, Below.mod (Below.allocS (Below.refl _ _) _) m2 (by simp) (by simp)⟩
theorem rfirst_any (w : World) : Calls Tryz.prog 71 #[] w fun e w' => e = .returned (.agg (arr 8 firstW).toArray) ∧ Below w.heap.size w w' := by
 go_enter Tryz.func71, Tryz.ntmps71
 go_wp2_with (refine wpList_rowStore row8w rfl rfl (.tmp 0) (.tmp 1) rfl rfl (vs := arr 8 firstW) rfl (arr_len 8 _) (arr_one 8 _) (us := (arr 8 fun _ => 0)) (arr_len 8 _) (by rw [zero8w]; exact Blk.new' (by simp)) ?_; intro w2 S2 m2)
 refine bodyPost_ret (results_cell1 rfl _ _ _ _ rfl (row_loadVar row8w _ (arr_len 8 _) S2)) rfl ?_
 exact ⟨rfl, Below.mod (Below.allocS (Below.refl _ _) _) m2 (by simp) (by simp)⟩
theorem infoU32 : (Tryz.prog.info? 117).map (fun i => (i.zero, i.size, i.bytes)) = some (some (.int .u32 0), 1, 4) := by kernel_rfl
theorem arr8_index (f : Nat → Int) (k : Nat) (hk : k < 8) (w : World) : (Instr.index 118 (.agg (arr 8 f).toArray) (.int .i64 (k : Int))).run Tryz.prog w = .ok (.int .u32 (f k)) w := by
 obtain ⟨i0, hi, _, hs, _⟩ := info_parts infoU32
 have hp : (Tryz.prog).plainKey 117 = true := by simp [Program.plainKey, Tryz.underlying117]
 have hpart := run_part_plain (P := Tryz.prog) w hp (off := k) (xs := (arr 8 f).toArray) (by simpa using arr_at 8 f k hk)
 have hsz : (Go.sizeOf 117).run Tryz.prog w = .ok 1 w := by simp [Go.sizeOf, typeInfo, hi, hs]
 have hk' : (0 : Int) ≤ (k : Int) ∧ (k : Int) < 8 := by omega
 simp [Instr.index, asIntOf, run_underlying Tryz.underlying118, hk', hsz, hpart, Sem.run_bind]
 intro h
 omega
theorem zero32b : (arb 32 fun _ => 0).toArray = #[Value.int .u8 0, Value.int .u8 0, Value.int .u8 0, Value.int .u8 0, Value.int .u8 0, Value.int .u8 0, Value.int .u8 0, Value.int .u8 0, Value.int .u8 0, Value.int .u8 0, Value.int .u8 0, Value.int .u8 0, Value.int .u8 0, Value.int .u8 0, Value.int .u8 0, Value.int .u8 0, Value.int .u8 0, Value.int .u8 0, Value.int .u8 0, Value.int .u8 0, Value.int .u8 0, Value.int .u8 0, Value.int .u8 0, Value.int .u8 0, Value.int .u8 0, Value.int .u8 0, Value.int .u8 0, Value.int .u8 0, Value.int .u8 0, Value.int .u8 0, Value.int .u8 0, Value.int .u8 0] := rfl
theorem told_any (g : Nat → Int) (hh : ∀ i, W32 (g i)) (w : World) : Calls Tryz.prog 125 #[.agg (arr 8 g).toArray] w fun e w' => e = .returned (.string ⟨List.toArray (toldP g)⟩) ∧ Below w.heap.size w w' := by
 have HH := Lib.hid hh
 clear hh
 have hB := (Blk.new w (arr 8 g).toArray 118).alloc (.cells #[Value.int .u8 0, Value.int .u8 0, Value.int .u8 0, Value.int .u8 0, Value.int .u8 0, Value.int .u8 0, Value.int .u8 0, Value.int .u8 0, Value.int .u8 0, Value.int .u8 0, Value.int .u8 0, Value.int .u8 0, Value.int .u8 0, Value.int .u8 0, Value.int .u8 0, Value.int .u8 0, Value.int .u8 0, Value.int .u8 0, Value.int .u8 0, Value.int .u8 0, Value.int .u8 0, Value.int .u8 0, Value.int .u8 0, Value.int .u8 0, Value.int .u8 0, Value.int .u8 0, Value.int .u8 0, Value.int .u8 0, Value.int .u8 0, Value.int .u8 0, Value.int .u8 0, Value.int .u8 0] 187)
 go_enter Tryz.func125, Tryz.ntmps125
 go_wp2_with (refine wpList_rowLoad row8w rfl (.tmp 1) rfl rfl (arr_len 8 _) hB ?_)
 go_loopw [7] (fun s7 wr => ∃ k : Nat, k ≤ 8 ∧ s7 = .int .i64 k ∧ Blk wr (w.heap.size + 1) (arb 32 (tb g k)).toArray ∧ Below w.heap.size w wr) (fun s7 _ => 8 - (intOf s7).toNat)
 case atStart => exact ⟨0, by omega, rfl, by rw [show tb g 0 = fun _ => 0 from by funext i; simp [tb], zero32b]; exact Blk.new' (by simp), by (repeat (first | exact Below.refl _ _ | assumption | apply Below.drew | apply below_drewN | apply Below.allocS | (refine Below.setCell ?_ (by simp <;> omega) _) | (refine Below.alloc ?_ (by simp <;> omega) _) | (refine Below.trans ?_ (Below.mono (by assumption) (by simp <;> omega)))))⟩
 case round =>
  clear hB
  obtain ⟨k, hk, rfl, B, hb⟩ := hrel
  rename_i wr
  by_cases hlt : k < 8
  ·have hlt' : (k : Int) < 8 := by omega
   have hix := arr8_index g k hlt
   have HX := HH.out k
   have q0 := byteAt_0 g k
   have q1 := byteAt_1 g k
   have q2 := byteAt_2 g k
   have q3 := byteAt_3 g k
   have B1 := (((B.set (4 * k) (.int .u8 (byteAt g (4 * k)))).set (4 * k + 1) (.int .u8 (byteAt g (4 * k + 1)))).set (4 * k + 2) (.int .u8 (byteAt g (4 * k + 2)))).set (4 * k + 3) (.int .u8 (byteAt g (4 * k + 3)))
   rw [arb_set, arb_set, arb_set, arb_set, tb_succ, q0, q1, q2, q3] at B1
   rw [show g k / 16777216 % 256 = g k / 16777216 from by have := HX.1; have := HX.2; omega] at B1
   have HB1 := Lib.hid B1
   clear B1 q0 q1 q2 q3
   have c0 := B.cell (4 * k)
   rw [arb_at 32 _ _ (by omega)] at c0
   have c1 := B.cell (4 * k + 1)
   rw [arb_at 32 _ _ (by omega)] at c1
   have c2 := B.cell (4 * k + 2)
   rw [arb_at 32 _ _ (by omega)] at c2
   have c3 := B.cell (4 * k + 3)
   rw [arb_at 32 _ _ (by omega)] at c3
   have d := B.froz
   have t0 : (4 * (k : Int)).toNat = 4 * k := by omega
   have t1 : (4 * (k : Int) + 1).toNat = 4 * k + 1 := by omega
   have t2 : (4 * (k : Int) + 2).toNat = 4 * k + 2 := by omega
   have t3 : (4 * (k : Int) + 3).toNat = 4 * k + 3 := by omega
   generalize g k = x at *
   obtain ⟨x0, x1⟩ := HX
   go_wp2_with fail
   exact ⟨⟨k + 1, by omega, by go_num, HB1.out, (((hb.setCell (by simp) _).setCell (by simp) _).setCell (by simp) _).setCell (by simp) _⟩, by simp [intOf]; omega⟩
  ·have hke : k = 8 := by omega
   subst hke
   have hcv := conv_str (P := Tryz.prog) (w := wr) 59 5 9 Tryz.underlying59 Tryz.underlying5 Tryz.underlying9 (w.heap.size + 1) 0 32 32 (toldP g) (toldP_len g) (fun i hi => by
    rw [Nat.zero_add, B.cell i, arb_at 32 _ _ hi]
    have hb2 := byteAt_bd g i
    simp [toldP, hi, tb, List.getD]
    omega)
   go_wp2_with fail
   go_ret
   exact ⟨rfl, hb⟩
@[go_sem] theorem run_conv4 {P : Program} {W : World} (src dst g n : Nat) (hs : P.underlying src = some (.slice (P.elem src))) (he : P.underlying (P.elem src) = some (.int .u8)) (hd : P.underlying dst = some .string) :
  (convert src dst (.slice (some ⟨g, 0, none⟩) 4 n)).run P W = match W.cell? ⟨g, 0, none⟩, W.cell? ⟨g, 1, none⟩, W.cell? ⟨g, 2, none⟩, W.cell? ⟨g, 3, none⟩ with
   | some (.int .u8 x), some (.int .u8 y), some (.int .u8 z), some (.int .u8 u) => .ok (.string ⟨List.toArray [UInt8.ofNat x.toNat, UInt8.ofNat y.toNat, UInt8.ofNat z.toNat, UInt8.ofNat u.toNat]⟩) W
   | _, _, _, _ => (Conv.bytesToString (.slice (some ⟨g, 0, none⟩) 4 n)).run P W := by
 split
 ·rename_i x y z u h0 h1 h2 h3
  have h' := run_convert_bytes_arg (P := P) W src _ hs he g 0 4 n [x, y, z, u] rfl (fun i hi => by
   match i, hi with
   | 0, _ => simpa using h0
   | 1, _ => simpa using h1
   | 2, _ => simpa using h2
   | 3, _ => simpa using h3) dst hd
  rw [h']; rfl
 ·exact run_convert_bytes_string W src dst _ _ 4 n hs he hd
theorem toldP_take (g : Nat → Int) (k : Nat) (hk : k < 8) : (toldP g).take (4 * (k + 1)) = (toldP g).take (4 * k) ++ [UInt8.ofNat (byteAt g (4 * k)).toNat, UInt8.ofNat (byteAt g (4 * k + 1)).toNat, UInt8.ofNat (byteAt g (4 * k + 2)).toNat, UInt8.ofNat (byteAt g (4 * k + 3)).toNat] := by
 have hl := toldP_len g
 have hat : ∀ j (h : j < (toldP g).length), (toldP g)[j] = UInt8.ofNat (byteAt g j).toNat := fun j h => by simp [toldP]
 rw [show 4 * (k + 1) = 4 * k + 1 + 1 + 1 + 1 from by omega]
 rw [List.take_succ_eq_append_getElem (by omega), List.take_succ_eq_append_getElem (by omega), List.take_succ_eq_append_getElem (by omega), List.take_succ_eq_append_getElem (by omega)]
 simp [hat]
theorem rtold_any (g : Nat → Int) (hh : ∀ i, W32 (g i)) (w : World) : Calls Tryz.prog 73 #[.agg (arr 8 g).toArray] w fun e w' => e = .returned (.string ⟨List.toArray (toldP g)⟩) ∧ Below w.heap.size w w' := by
 have HH := Lib.hid hh
 clear hh
 have hB := Blk.new w (arr 8 g).toArray 118
 go_enter Tryz.func73, Tryz.ntmps73
 go_wp2_with fail
 go_loopw [3, 4] (fun s3 s4 wr => ∃ k : Nat, k ≤ 8 ∧ s4 = .int .i64 k ∧ s3 = .string ⟨List.toArray ((toldP g).take (4 * k))⟩ ∧ Blk wr w.heap.size (arr 8 g).toArray ∧ Below w.heap.size w wr) (fun _ s4 _ => 8 - (intOf s4).toNat)
 case atStart => exact ⟨0, by omega, rfl, by simp, hB, by (repeat (first | exact Below.refl _ _ | assumption | apply Below.drew | apply below_drewN | apply Below.allocS | (refine Below.setCell ?_ (by simp <;> omega) _) | (refine Below.alloc ?_ (by simp <;> omega) _) | (refine Below.trans ?_ (Below.mono (by assumption) (by simp <;> omega)))))⟩
 case round =>
  clear hB
  obtain ⟨k, hk, rfl, rfl, B, hb⟩ := hrel
  rename_i wr
  by_cases hlt : k < 8
  ·have hlt' : (k : Int) < 8 := by omega
   have HX := HH.out k
   have hts := toldP_take g k hlt
   rw [byteAt_0, byteAt_1, byteAt_2, byteAt_3] at hts
   rw [show g k / 16777216 % 256 = g k / 16777216 from by have := HX.1; have := HX.2; omega] at hts
   have HT := Lib.hid hts
   clear hts
   have hln : ((toldP g).take (4 * k)).length ≤ 32 := by rw [List.length_take, toldP_len]; omega
   have c0 := B.cell k
   rw [arr_at 8 _ _ hlt] at c0
   have bl := B.lt
   generalize g k = x at *
   generalize (toldP g).take (4 * k) = t at *
   obtain ⟨x0, x1⟩ := HX
   have hcat : ¬ 9223372036854775807 < t.length + 4 := by omega
   have q0 : IntKind.u8.wrap (x / 16777216) = x / 16777216 := by rw [IntKind.wrap_u8']; omega
   have q1 : IntKind.u8.wrap (x / 65536) = x / 65536 % 256 := by rw [IntKind.wrap_u8']
   have q2 : IntKind.u8.wrap (x / 256) = x / 256 % 256 := by rw [IntKind.wrap_u8']
   have q3 : IntKind.u8.wrap x = x % 256 := by rw [IntKind.wrap_u8']
   go_wp2_with fail
   go_region
   all_goals go_wp2_with fail
   all_goals exact ⟨⟨k + 1, by omega, by go_num, by rw [HT.out], (B.alloc _).drew, (Below.allocS hb _).drew⟩, by simp [intOf]; omega⟩
  ·have hke : k = 8 := by omega
   subst hke
   go_wp2_with fail
   go_ret
   exact ⟨by rw [List.take_of_length_le (by rw [toldP_len]; omega)]; rfl, hb⟩
end Go.Proofs.YtjppbomngnomhaaGreatDoor
