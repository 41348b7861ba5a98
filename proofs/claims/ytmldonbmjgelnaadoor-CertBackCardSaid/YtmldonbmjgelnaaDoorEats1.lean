/- Layer 2, plain: a reader that ends well has eaten just the bytes that would be written. -/
import Derived.Test.YtmldonbmjgelnaaDoorBack
set_option linter.unusedSimpArgs false
set_option linter.unusedVariables false
namespace Go.Proofs.YtmldonbmjgelnaaDoor
namespace Pl

theorem digs_be : ∀ (f : Nat) (l : Bs), l.length ≤ f → (l.headD 1 ≠ 0) → digs f (be l) = l
  | 0, l, h, _ => by
    have : l = [] := List.length_eq_zero_iff.1 (by omega)
    subst this; rfl
  | f + 1, l, h, h0 => by
    rcases List.eq_nil_or_concat l with rfl | ⟨r, c, rfl⟩
    · simp [be, digs]
    · rw [List.concat_eq_append] at *
      have hp : 0 < be (r ++ [c]) := by
        cases r with
        | nil =>
          simp at h0
          have : c.toNat ≠ 0 := fun e => h0 (by rw [← UInt8.toNat_inj]; exact e)
          simp [be]; omega
        | cons a q =>
          simp at h0
          have h1 : a.toNat ≠ 0 := fun e => h0 (by rw [← UInt8.toNat_inj]; exact e)
          rw [List.cons_append, be_cons]
          have : 1 * 256 ^ (q ++ [c]).length ≤ a.toNat * 256 ^ (q ++ [c]).length := Nat.mul_le_mul_right _ (by omega)
          have := Nat.pow_pos (n := (q ++ [c]).length) (show 0 < 256 by omega)
          omega
      rw [digs_step f _ hp, be_snoc]
      have hc := c.toNat_lt
      rw [show (be r * 256 + c.toNat) / 256 = be r from by omega, show (be r * 256 + c.toNat) % 256 = c.toNat from by omega]
      rw [digs_be f r (by simp at h; omega) (by
        cases r with
        | nil => simp
        | cons a q => simpa using h0)]
      simp

theorem take_eats (s : Bs) (h : (take s).2.2 = 0) : s = num (take s).1 ++ (take s).2.1 := by
  cases s with
  | nil => exact absurd h (by decide)
  | cons k r =>
    unfold take at h ⊢
    simp only at h ⊢
    split at h
    · exact absurd h (by decide)
    · rename_i h8
      split at h
      · exact absurd h (by decide)
      · rename_i hr
        split at h
        · exact absurd h (by decide)
        · rename_i hz
          rw [if_neg h8, if_neg hr, if_neg hz]
          have hl : (r.take k.toNat).length = k.toNat := by simp; omega
          have hd : digs 8 (be (r.take k.toNat)) = r.take k.toNat := digs_be 8 _ (by omega) (by
            cases hk : k.toNat with
            | zero => simp
            | succ n =>
              cases r with
              | nil => simp at hr; omega
              | cons a q =>
                simp
                intro e
                exact hz (.inl ⟨by omega, by simp [e]⟩))
          simp only [num, hd, hl]
          rw [List.cons_append, List.take_append_drop]
          simp
theorem tx_eats (s : Bs) (most : Int) (h : (tx s most).2.2 = 0) : s = text (tx s most).1 ++ (tx s most).2.1 ∧ ((tx s most).1.length : Int) ≤ most := by
  unfold tx at h ⊢
  split at h
  · rename_i h1; exact absurd h h1
  · rename_i h1
    split at h
    · exact absurd h (by decide)
    · rename_i h2
      split at h
      · exact absurd h (by decide)
      · rename_i h3
        rw [if_neg h1, if_neg h2, if_neg h3]
        have ht := take_eats s (by simpa using h1)
        have hl : ((take s).2.1.take (take s).1).length = (take s).1 := by simp; omega
        refine ⟨?_, by simp only [hl]; omega⟩
        simp only [text, hl]
        rw [List.append_assoc, List.take_append_drop]
        exact ht
theorem mText_eats (s : Bs) (c most : Int) (h : (mText s c most).2.2 = 0) : c = 0 ∧ s = text (mText s c most).1 ++ (mText s c most).2.1 ∧ ((mText s c most).1.length : Int) ≤ most := by
  unfold mText at h ⊢
  split at h
  · rename_i h1; exact absurd h h1
  · rename_i h1
    split at h
    · rename_i h2; exact absurd h h2
    · rename_i h2
      rw [if_neg h1, if_neg h2]
      have := tx_eats s most (by simpa using h2)
      exact ⟨by simpa using h1, this⟩
theorem mBytes_eats (s : Bs) (c : Int) (n : Nat) (h : (mBytes s c n).2.2 = 0) : c = 0 ∧ s = (mBytes s c n).1 ++ (mBytes s c n).2.1 ∧ (mBytes s c n).1.length = n := by
  unfold mBytes at h ⊢
  split at h
  · rename_i h1; exact absurd h h1
  · rename_i h1
    split at h
    · exact absurd h (by simp)
    · rename_i h2
      split at h
      · exact absurd h (by simp)
      · rename_i h3
        rw [if_neg h1, if_neg h2, if_neg h3]
        refine ⟨by simpa using h1, by simp, by simp; omega⟩

end Pl
end Go.Proofs.YtmldonbmjgelnaaDoor
