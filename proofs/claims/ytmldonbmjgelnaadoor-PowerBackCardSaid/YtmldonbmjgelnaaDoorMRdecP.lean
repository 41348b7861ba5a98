/- Plain: the document's set of bytes is the program's. -/
import Derived.Test.YtmldonbmjgelnaaDoorMDec
import Derived.Test.YtmldonbmjgelnaaDoorRdecP
set_option linter.unusedSimpArgs false
set_option linter.unusedVariables false
namespace Go.Proofs.YtmldonbmjgelnaaDoor
namespace Pl

theorem mNum_eats (s : Bs) (c : Int) (h : (mNum s c).2.2 = 0) : c = 0 ∧ s = num (mNum s c).1 ++ (mNum s c).2.1 := by
  unfold mNum at h ⊢
  split at h
  · rename_i hc; exact absurd h hc
  · rename_i hc
    split at h
    · rename_i h2; exact absurd h h2
    · rename_i h2
      have h3 : (take s).2.2 = 0 := by simpa using h2
      rw [if_neg hc, if_neg h2]
      exact ⟨by simpa using hc, take_eats s h3⟩
theorem mSt_eats (s : Bs) : ∀ i, (mSt s i).2.2 = 0 → s = num (mNum s 0).1 ++ (memsB (mSt s i).1 ++ (mSt s i).2.1)
  | 0, h => by simpa [mSt, memsB] using (mNum_eats s 0 h).2
  | i + 1, h => by
    rw [mSt_succ] at h ⊢
    have ih := mSt_eats s i
    generalize mSt s i = x at *
    obtain ⟨l, t, c⟩ := x
    simp only [stepM] at h ⊢
    obtain ⟨h1, h2⟩ := mNum_eats _ _ h
    obtain ⟨h3, h4, _⟩ := mText_eats _ _ _ h1
    subst h3
    have ih := ih rfl
    simp only at ih
    rw [memsB_app]
    simp only [Int.toNat_natCast]
    rw [h2] at h4
    generalize mNum (mText t 0 6).2.1 (mText t 0 6).2.2 = z at *
    rw [List.append_assoc, List.append_assoc, ← h4]
    exact ih
def rdecM (s : Bs) : List (Bs × Int) × Int :=
  if (mNum s 0).2.2 = 0 ∧ (mNum s 0).1 ≤ 7 ∧ (mSt s (mNum s 0).1).2.2 = 0 ∧ chkM (mSt s (mNum s 0).1).1 = true ∧ encM (mSt s (mNum s 0).1).1 = s then ((mSt s (mNum s 0).1).1, 0) else ([], 3)
theorem rdecM_dec (s : Bs) : rdecM s = decM s := by
  have hl := mSt_len s (mNum s 0).1
  have he := mSt_eats s (mNum s 0).1
  have hb : (mNum s 0).2.2 ≠ 0 → (mSt s (mNum s 0).1).2.2 ≠ 0 := by
    intro h
    have := mSt_bad s 0 h (mNum s 0).1
    rwa [Nat.zero_add] at this
  unfold rdecM decM
  generalize mSt s (mNum s 0).1 = x at *
  obtain ⟨l, t, c⟩ := x
  simp only at *
  by_cases hc : c = 0
  · subst hc
    have he := he rfl
    have h0 : (mNum s 0).2.2 = 0 := by
      by_cases h : (mNum s 0).2.2 = 0
      · exact h
      · exact absurd rfl (hb h)
    have he2 : s = encM l ++ t := by rw [encM, hl, List.append_assoc]; exact he
    by_cases hk : chkM l = true
    · have h7 : (mNum s 0).1 ≤ 7 := by
        simp only [chkM, Bool.and_eq_true, decide_eq_true_eq] at hk
        have := hk.1.2
        omega
      by_cases ht : t = []
      · subst ht
        rw [List.append_nil] at he2
        rw [if_pos ⟨h0, h7, rfl, hk, he2.symm⟩, if_pos ⟨by simp [mEnd], hk⟩]
      · rw [if_neg, if_neg]
        · rintro ⟨h, _⟩
          exact ht (mEnd_zero h).2
        · rintro ⟨_, _, _, _, h⟩
          apply ht
          have := congrArg List.length he2
          rw [List.length_append, h] at this
          exact List.eq_nil_of_length_eq_zero (by omega)
    · rw [if_neg (fun h => hk h.2.2.2.1), if_neg (fun h => hk h.2)]
  · rw [if_neg (fun h => hc h.2.2.1), if_neg (fun h => mEnd_bad t c hc h.1)]

end Pl
end Go.Proofs.YtmldonbmjgelnaaDoor
