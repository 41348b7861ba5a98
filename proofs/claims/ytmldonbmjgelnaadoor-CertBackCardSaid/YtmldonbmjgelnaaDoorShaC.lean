/- Sums that are reckoned out: a table of words and of rounds is checked, entry by entry. -/
import Derived.Test.YtmldonbmjgelnaaDoorDig
set_option linter.unusedSimpArgs false
set_option linter.unusedVariables false
namespace Go.Proofs.YtmldonbmjgelnaaDoor
open Go.RowKit

def okW (b : Nat → Int) (W : List Int) : Bool := (List.range 64).all fun i => decide (W.getD i 0 = if i < 16 then word4 b i else (W.getD (i - 16) 0 + sg0 (W.getD (i - 15) 0) + W.getD (i - 7) 0 + sg1 (W.getD (i - 2) 0)) % 4294967296)
theorem okW_sch (b : Nat → Int) (W : List Int) (h : okW b W = true) (i : Nat) (hi : i < 64) : sch b i = W.getD i 0 := by
  induction i using Nat.strongRecOn with
  | _ i ih =>
    have h2 := List.all_eq_true.1 h i (by simpa using hi)
    rw [decide_eq_true_iff] at h2
    rw [h2]
    by_cases h16 : i < 16
    · rw [if_pos h16, sch_lo b i h16]
    · rw [if_neg h16, sch_hi b i h16, ih (i - 16) (by omega) (by omega), ih (i - 15) (by omega) (by omega), ih (i - 7) (by omega) (by omega), ih (i - 2) (by omega) (by omega)]
def stL (S : List (List Int)) (n : Nat) : Nat → Int := fun j => (S.getD n []).getD j 0
def okR (g : Nat → Int) (W : List Int) (S : List (List Int)) : Bool :=
  (List.range 8).all (fun j => decide (stL S 0 j = g j)) && (List.range 64).all fun n => (List.range 8).all fun j => decide (stL S (n + 1) j = rnd (kc n) (W.getD n 0) (stL S n) j)
theorem rnd_of (k w : Int) (u v : Nat → Int) (h : ∀ j, j < 8 → u j = v j) : ∀ j, j < 8 → rnd k w u j = rnd k w v j := by
  intro j hj
  unfold rnd
  have h0 := h 0 (by omega)
  have h1 := h 1 (by omega)
  have h2 := h 2 (by omega)
  have h3 := h 3 (by omega)
  have h4 := h 4 (by omega)
  have h5 := h 5 (by omega)
  have h6 := h 6 (by omega)
  have h7 := h 7 (by omega)
  split <;> first | rfl | assumption | (simp only [h0, h1, h2, h3, h4, h5, h6, h7])
theorem okR_rds (g b : Nat → Int) (W : List Int) (S : List (List Int)) (hw : okW b W = true) (h : okR g W S = true) : ∀ n, n ≤ 64 → ∀ j, j < 8 → rds g b n j = stL S n j := by
  unfold okR at h
  rw [Bool.and_eq_true] at h
  intro n
  induction n with
  | zero =>
    intro _ j hj
    have := List.all_eq_true.1 h.1 j (by simpa using hj)
    rw [decide_eq_true_iff] at this
    exact this.symm
  | succ n ih =>
    intro hn j hj
    have h2 := List.all_eq_true.1 h.2 n (by simp; omega)
    have h3 := List.all_eq_true.1 h2 j (by simpa using hj)
    rw [decide_eq_true_iff] at h3
    rw [h3, rds, okW_sch b W hw n (by omega)]
    exact rnd_of _ _ _ _ (ih (by omega)) j hj
/-- The first word of the sum of a text of one block. -/
theorem sum_byte (s : List UInt8) (W : List Int) (S : List (List Int)) (hp : (padP s).length / 64 = 1) (hw : okW (blkB (padP s) 0) W = true) (h : okR firstW W S = true) :
    (sumP s).getD 0 0 = UInt8.ofNat (((stL S 64 0 + firstW 0) % 4294967296 / 16777216 % 256).toNat) := by
  have h1 := okR_rds firstW (blkB (padP s) 0) W S hw h 64 (by omega) 0 (by omega)
  have h2 : (sumP s).getD 0 0 = UInt8.ofNat (byteAt (blkN firstW (padP s) ((padP s).length / 64)) 0).toNat := by simp [sumP, toldP]
  rw [h2, hp]
  show UInt8.ofNat (byteAt (blk firstW (blkB (padP s) 0)) 0).toNat = _
  unfold byteAt blk
  simp only [Nat.zero_div, Nat.zero_mod, if_true]
  rw [h1]
end Go.Proofs.YtmldonbmjgelnaaDoor
