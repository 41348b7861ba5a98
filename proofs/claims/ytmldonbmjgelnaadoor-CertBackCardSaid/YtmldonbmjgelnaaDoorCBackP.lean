/- Plain: a certificate that may be is told by its bytes; bytes that tell one are that one's. -/
import Derived.Test.YtmldonbmjgelnaaDoorCertC
import Derived.Test.YtmldonbmjgelnaaDoorEats1
set_option linter.unusedSimpArgs false
set_option linter.unusedVariables false
namespace Go.Proofs.YtmldonbmjgelnaaDoor
namespace Pl

theorem lGo_list (each : Int) : ∀ (l : List Bs) (r : Bs), (∀ x ∈ l, x.length < 9223372036854775808 ∧ (x.length : Int) ≤ each) → lGo each l.length (listB l ++ r) = (l, r, 0)
  | [], r, _ => rfl
  | x :: l, r, h => by
    obtain ⟨h1, h2⟩ := h x (by simp)
    have ht := tx_text x each h1 h2 (listB l ++ r)
    show lGo each (l.length + 1) (text x ++ listB l ++ r) = _
    rw [List.append_assoc, lGo_step _ _ _ (by rw [ht]), ht, lGo_list each l r (fun y hy => h y (by simp [hy]))]
theorem lGo_eats (each : Int) : ∀ (n : Nat) (s : Bs), (lGo each n s).2.2 = 0 → s = listB (lGo each n s).1 ++ (lGo each n s).2.1 ∧ (lGo each n s).1.length = n
  | 0, s, _ => ⟨rfl, rfl⟩
  | n + 1, s, h => by
    by_cases ht : (tx s each).2.2 = 0
    · rw [lGo_step each n s ht] at h ⊢
      obtain ⟨h1, h2⟩ := lGo_eats each n _ h
      refine ⟨?_, by simp [h2]⟩
      simp only [listB]
      rw [List.append_assoc, ← h1]
      exact (tx_eats s each ht).1
    · rw [lGo_bad each n s ht] at h
      exact absurd h ht
theorem mList_enc (l : List Bs) (h7 : l.length ≤ 7) (h : ∀ x ∈ l, x.length ≤ 6) (r : Bs) : mList (encS l ++ r) 0 7 6 = (l, r, 0) := by
  have ht : take (encS l ++ r) = (l.length, listB l ++ r, 0) := by rw [encS, List.append_assoc, take_num _ (by omega)]
  rw [mList_in _ _ _ (by rw [ht]) (by rw [ht]; simp; omega), ht]
  simp only
  rw [lGo_list 6 l r (fun x hx => by have := h x hx; constructor <;> omega)]
  simp [mListIn]
theorem mList_eats (s : Bs) (c most each : Int) (h : (mList s c most each).2.2 = 0) : c = 0 ∧ s = encS (mList s c most each).1 ++ (mList s c most each).2.1 := by
  by_cases hc : c = 0
  · subst hc
    by_cases he : (take s).2.2 = 0
    · by_cases hm : most < (take s).1
      · rw [mList_long _ _ _ he hm] at h
        exact absurd h (by simp)
      · rw [mList_in _ _ _ he hm] at h ⊢
        unfold mListIn at h ⊢
        by_cases hg : (lGo each (take s).1 (take s).2.1).2.2 = 0
        · rw [if_neg (by simpa using hg)]
          obtain ⟨h1, h2⟩ := lGo_eats each _ _ hg
          refine ⟨rfl, ?_⟩
          rw [encS, h2, List.append_assoc, ← h1]
          exact take_eats s he
        · rw [if_pos hg] at h
          exact absurd h hg
    · rw [mList_bad _ _ _ he] at h
      exact absurd h he
  · rw [mList_c _ _ _ _ hc] at h
    exact absurd h hc
theorem mem_getD (l : List Bs) (m : Nat) (h : ∀ i, i < l.length → (l.getD i []).length ≤ m) : ∀ x ∈ l, x.length ≤ m := by
  intro x hx
  obtain ⟨i, hi, rfl⟩ := List.getElem_of_mem hx
  have := h i hi
  rw [List.getD_eq_getElem?_getD, List.getElem?_eq_getElem hi] at this
  exact this
theorem decC_enc (d : Bs) (l : List Bs) (hc : mayC d l = true) : decC (encC d l) = ((d, l), 0) := by
  obtain ⟨p1, p2, _, p3⟩ := mayC_parts hc
  have hb : mBytes (encC d l) 0 32 = (d, encS l, 0) := mBytes_app d 32 p1 (encS l)
  have hl : mList (encS l) 0 7 6 = (l, [], 0) := by
    have := mList_enc l p2 (mem_getD l 6 p3) []
    rwa [List.append_nil] at this
  unfold decC
  rw [hb]
  simp only [hl]
  rw [if_pos ⟨by simp [mEnd], hc⟩]
theorem mEnd_zero (s : Bs) (c : Int) (h : mEnd s c = 0) : s = [] ∧ c = 0 := by
  unfold mEnd at h
  split at h
  · exact absurd h (by decide)
  · rename_i hn
    refine ⟨?_, h⟩
    cases s with
    | nil => rfl
    | cons a r => exact absurd ⟨h, by simp⟩ hn
theorem decC_two (s : Bs) : (∃ d l, decC s = ((d, l), 0) ∧ mayC d l = true ∧ encC d l = s) ∨ decC s = (([], []), 3) := by
  unfold decC
  simp only
  split
  · rename_i h
    obtain ⟨h1, h2⟩ := h
    obtain ⟨h3, h4⟩ := mEnd_zero _ _ h1
    obtain ⟨h5, h6⟩ := mList_eats _ _ _ _ h4
    obtain ⟨_, h8, _⟩ := mBytes_eats s 0 32 h5
    refine .inl ⟨_, _, rfl, h2, ?_⟩
    rw [h3, List.append_nil] at h6
    have h9 : s = (mBytes s 0 32).1 ++ encS (mList (mBytes s 0 32).2.1 (mBytes s 0 32).2.2 7 6).1 := by
      rw [← h6]; exact h8
    exact h9.symm
  · exact .inr rfl
end Pl
end Go.Proofs.YtmldonbmjgelnaaDoor
