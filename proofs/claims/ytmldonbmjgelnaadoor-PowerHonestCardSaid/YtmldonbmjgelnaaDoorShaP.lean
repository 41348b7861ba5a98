/- Layer 3: the words of a block and of a text, as plain functions. -/
import Derived.Test.YtmldonbmjgelnaaDoorKit
set_option linter.unusedSimpArgs false
set_option linter.unusedVariables false
namespace Go.Proofs.YtmldonbmjgelnaaDoor
open Go.RowKit

abbrev W32 (x : Int) : Prop := 0 ≤ x ∧ x < 4294967296
def rotI (x n : Int) : Int := bits .or .u32 (x / 2 ^ n.toNat) (x * 2 ^ (32 - n).toNat % 4294967296)
theorem u32_wrap_bd (x : Int) : W32 (IntKind.u32.wrap x) := by
  rw [IntKind.wrap_u32']
  exact ⟨Int.emod_nonneg _ (by omega), Int.emod_lt_of_pos _ (by omega)⟩
theorem bits_bd (op : BinOp) (a b : Int) : W32 (bits op .u32 a b) := by
  unfold bits
  split <;> exact u32_wrap_bd _
theorem rotI_bd (x n : Int) : W32 (rotI x n) := bits_bd _ _ _

/-- An array of words, of bytes. -/
def arr (n : Nat) (f : Nat → Int) : List Value := (List.range n).map fun i => .int .u32 (f i)
def arb (n : Nat) (f : Nat → Int) : List Value := (List.range n).map fun i => .int .u8 (f i)
def updI (f : Nat → Int) (k : Nat) (x : Int) : Nat → Int := fun i => if i = k then x else f i
@[go_sem, simp] theorem arr_len (n : Nat) (f : Nat → Int) : (arr n f).length = n := by simp [arr]
@[go_sem, simp] theorem arb_len (n : Nat) (f : Nat → Int) : (arb n f).length = n := by simp [arb]
theorem arr_at (n : Nat) (f : Nat → Int) (i : Nat) (h : i < n) : (arr n f).toArray[i]? = some (.int .u32 (f i)) := by simp [arr, h]
theorem arb_at (n : Nat) (f : Nat → Int) (i : Nat) (h : i < n) : (arb n f).toArray[i]? = some (.int .u8 (f i)) := by simp [arb, h]
theorem arr_set (n : Nat) (f : Nat → Int) (k : Nat) (x : Int) : (arr n f).toArray.setIfInBounds k (.int .u32 x) = (arr n (updI f k x)).toArray := by
  apply Array.ext'
  rw [Array.toList_setIfInBounds]
  simp only [arr]
  apply List.ext_getElem (by simp)
  intro i h1 h2
  simp [List.getElem_set, updI]
  by_cases h : k = i
  · subst h; simp
  · rw [if_neg h, if_neg (fun e => h e.symm)]
theorem arb_set (n : Nat) (f : Nat → Int) (k : Nat) (x : Int) : (arb n f).toArray.setIfInBounds k (.int .u8 x) = (arb n (updI f k x)).toArray := by
  apply Array.ext'
  rw [Array.toList_setIfInBounds]
  simp only [arb]
  apply List.ext_getElem (by simp)
  intro i h1 h2
  simp [List.getElem_set, updI]
  by_cases h : k = i
  · subst h; simp
  · rw [if_neg h, if_neg (fun e => h e.symm)]
theorem arr_ext {n : Nat} {f g : Nat → Int} (h : ∀ i, i < n → f i = g i) : arr n f = arr n g := by
  unfold arr
  apply List.map_congr_left
  intro i hi
  rw [h i (by simpa using hi)]
theorem arr_one (n : Nat) (f : Nat → Int) : ∀ v ∈ arr n f, v.oneCell' = true := by
  intro v hv
  simp [arr] at hv
  obtain ⟨i, _, rfl⟩ := hv
  rfl
theorem arb_one (n : Nat) (f : Nat → Int) : ∀ v ∈ arb n f, v.oneCell' = true := by
  intro v hv
  simp [arb] at hv
  obtain ⟨i, _, rfl⟩ := hv
  rfl

theorem ofInt32_nat (a : Nat) (ha : a < 4294967296) : (BitVec.ofInt 32 (a : Int)).toNat = a := by
  rw [BitVec.toNat_ofInt]; omega
theorem u32_or_nat' (a b : Nat) (ha : a < 4294967296) (hb : b < 4294967296) : bits .or .u32 (a : Int) (b : Int) = ((a ||| b : Nat) : Int) := by
  have hx : a ||| b < 2 ^ 32 := Nat.or_lt_two_pow (by omega) (by omega)
  show IntKind.u32.wrap ((BitVec.ofInt 32 (a : Int) ||| BitVec.ofInt 32 (b : Int)).toNat : Int) = _
  rw [BitVec.toNat_or, ofInt32_nat a ha, ofInt32_nat b hb, IntKind.wrap_u32']
  omega
theorem u32_or_sum (a b i P : Nat) (hP : 2 ^ i = P) (hb : b < P) (h : a * P + b < 4294967296) : bits .or .u32 ((a * P : Nat) : Int) (b : Int) = ((a * P + b : Nat) : Int) := by
  subst hP
  rw [u32_or_nat' _ _ (by omega) (by omega), Nat.mul_comm a, Nat.two_pow_add_eq_or_of_lt hb a]
set_option maxRecDepth 100000 in
theorem or4 (a b c d : Int) (ha : 0 ≤ a ∧ a < 256) (hb : 0 ≤ b ∧ b < 256) (hc : 0 ≤ c ∧ c < 256) (hd : 0 ≤ d ∧ d < 256) :
    bits .or .u32 (bits .or .u32 (bits .or .u32 (a * 16777216) (b * 65536)) (c * 256)) d = a * 16777216 + b * 65536 + c * 256 + d := by
  obtain ⟨a, rfl⟩ := Int.eq_ofNat_of_zero_le ha.1
  obtain ⟨b, rfl⟩ := Int.eq_ofNat_of_zero_le hb.1
  obtain ⟨c, rfl⟩ := Int.eq_ofNat_of_zero_le hc.1
  obtain ⟨d, rfl⟩ := Int.eq_ofNat_of_zero_le hd.1
  have e1 := u32_or_sum a (b * 65536) 24 16777216 (by decide) (by omega) (by omega)
  have e2 := u32_or_sum (a * 256 + b) (c * 256) 16 65536 (by decide) (by omega) (by omega)
  have e3 := u32_or_sum (a * 65536 + b * 256 + c) d 8 256 (by decide) (by omega) (by omega)
  have c1 : ((a : Int) * 16777216) = ((a * 16777216 : Nat) : Int) := by omega
  have c2 : ((b : Int) * 65536) = ((b * 65536 : Nat) : Int) := by omega
  have c3 : ((a * 16777216 + b * 65536 : Nat) : Int) = (((a * 256 + b) * 65536 : Nat) : Int) := by omega
  have c4 : ((c : Int) * 256) = ((c * 256 : Nat) : Int) := by omega
  have c5 : (((a * 256 + b) * 65536 + c * 256 : Nat) : Int) = (((a * 65536 + b * 256 + c) * 256 : Nat) : Int) := by simp only [Nat.add_mul, Nat.mul_assoc, Nat.reduceMul]
  rw [c1, c2, e1, c3, c4, e2, c5, e3]
  simp only [Nat.add_mul, Nat.mul_assoc, Nat.reduceMul, Int.natCast_add, Int.natCast_mul]

/-- The word of four bytes. -/
def word4 (b : Nat → Int) (i : Nat) : Int := b (4 * i) * 16777216 + b (4 * i + 1) * 65536 + b (4 * i + 2) * 256 + b (4 * i + 3)
def sg0 (x : Int) : Int := bits .xor .u32 (bits .xor .u32 (rotI x 7) (rotI x 18)) (x / 8)
def sg1 (y : Int) : Int := bits .xor .u32 (bits .xor .u32 (rotI y 17) (rotI y 19)) (y / 1024)
def add32 (a b : Int) : Int := (a + b) % 4294967296
/-- The words of a block. -/
def sch (b : Nat → Int) (i : Nat) : Int :=
  if h : i < 16 then word4 b i
  else (sch b (i - 16) + sg0 (sch b (i - 15)) + sch b (i - 7) + sg1 (sch b (i - 2))) % 4294967296
termination_by i
decreasing_by all_goals omega
def bS1 (e : Int) : Int := bits .xor .u32 (bits .xor .u32 (rotI e 6) (rotI e 11)) (rotI e 25)
def bS0 (a : Int) : Int := bits .xor .u32 (bits .xor .u32 (rotI a 2) (rotI a 13)) (rotI a 22)
theorem add32_bd (a b : Int) : W32 (add32 a b) := ⟨Int.emod_nonneg _ (by omega), Int.emod_lt_of_pos _ (by omega)⟩
theorem sch_bd (b : Nat → Int) (hb : ∀ i, i < 64 → 0 ≤ b i ∧ b i < 256) (i : Nat) : W32 (sch b i) := by
  rw [sch]
  split
  · rename_i h
    have h0 := hb (4 * i) (by omega)
    have h1 := hb (4 * i + 1) (by omega)
    have h2 := hb (4 * i + 2) (by omega)
    have h3 := hb (4 * i + 3) (by omega)
    unfold word4 W32
    omega
  · exact ⟨Int.emod_nonneg _ (by omega), Int.emod_lt_of_pos _ (by omega)⟩

end Go.Proofs.YtmldonbmjgelnaaDoor
