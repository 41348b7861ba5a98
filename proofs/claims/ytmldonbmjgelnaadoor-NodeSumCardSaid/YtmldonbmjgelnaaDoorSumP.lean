/- Layer 8, plain: the sums that a node names stand in its bytes. -/
import Derived.Test.YtmldonbmjgelnaaDoorPlain
set_option linter.unusedSimpArgs false
set_option linter.unusedVariables false
namespace Go.Proofs.YtmldonbmjgelnaaDoor
namespace Pl

theorem flat_at : ∀ (l : List Bs) (r : Bs), (∀ x ∈ l, x.length = 32) → 32 * l.length ≤ (l.flatten ++ r).length ∧ ∀ i, i < l.length → ((l.flatten ++ r).drop (32 * i)).take 32 = l.getD i []
  | [], r, _ => ⟨by simp, fun i hi => by simp at hi⟩
  | x :: l, r, h => by
    have hx := h x (by simp)
    obtain ⟨h1, h2⟩ := flat_at l r (fun y hy => h y (by simp [hy]))
    refine ⟨by simp at h1 ⊢; omega, fun i hi => ?_⟩
    rw [List.flatten_cons, List.append_assoc]
    match i with
    | 0 => rw [Nat.mul_zero, List.drop_zero, List.take_append_of_le_length (by omega), List.take_of_length_le (by omega)]; rfl
    | j + 1 =>
      rw [show 32 * (j + 1) = x.length + 32 * j from by omega, List.drop_append, List.drop_eq_nil_of_le (by omega), List.nil_append, Nat.add_sub_cancel_left]
      rw [h2 j (by simpa using hi)]
      rfl
theorem one_kid {kid : Nat → Bs} (h : oneKidX kid (kid 0) = true) (h32 : (kid 0).length = 32) : kidsF kid = [kid 0] := by
  simp only [oneKidX, sameL, decide_eq_true_eq] at h
  have hz : ∀ i, 1 ≤ i → i < 16 → kid i = [] := by
    intro i h1 hi
    have := congrArg (fun l => l[i]?) h
    simp only [kidL, List.getElem?_map, List.getElem?_range hi, Option.map_some] at this
    rw [show i = (i - 1) + 1 from by omega, List.getElem?_cons_succ, List.getElem?_replicate, if_pos (by omega)] at this
    rw [show i = (i - 1) + 1 from by omega]
    exact Option.some.inj this
  have hne : kid 0 ≠ [] := by intro e; rw [e] at h32; simp at h32
  have hto : ∀ n, 1 ≤ n → n ≤ 16 → kidsTo kid n = [kid 0] := by
    intro n
    induction n with
    | zero => intro h1; omega
    | succ n ih =>
      intro _ hn
      rw [kidsTo_succ]
      by_cases h0 : n = 0
      · subst h0
        rw [if_neg hne]; rfl
      · rw [ih (by omega) (by omega), hz n (by omega) (by omega), if_pos rfl, List.append_nil]
  exact hto 16 (by omega) (by omega)
theorem no_kid {kid : Nat → Bs} (h : noKids kid = true) : kidsF kid = [] := by
  simp only [noKids, sameL, decide_eq_true_eq] at h
  have hz : ∀ i, i < 16 → kid i = [] := by
    intro i hi
    have := congrArg (fun l => l[i]?) h
    simp only [kidL, List.getElem?_map, List.getElem?_range hi, Option.map_some] at this
    rw [List.getElem?_replicate, if_pos hi] at this
    exact Option.some.inj this
  have hto : ∀ n, n ≤ 16 → kidsTo kid n = [] := by
    intro n
    induction n with
    | zero => intro _; rfl
    | succ n ih => intro hn; rw [kidsTo_succ, ih (by omega), hz n (by omega), if_pos rfl, List.append_nil]
  exact hto 16 (by omega)
/-- What a node's sums are, in its bytes. -/
theorem sums_in (k : Int) (p v : Bs) (kid : Nat → Bs) (h : chk k p v kid = true) :
    (∀ i, i < (kidsF kid).length → ((kidsF kid).getD i []).length = 32) ∧
    ((k = 3 ∧ 3 + 32 * (kidsF kid).length ≤ (enc k p v kid).length ∧ ∀ i, i < (kidsF kid).length → ((enc k p v kid).drop (3 + 32 * i)).take 32 = (kidsF kid).getD i []) ∨
     (k ≠ 3 ∧ ((kidsF kid).length : Int) = k - 1 ∧ (0 < (kidsF kid).length → 32 ≤ (enc k p v kid).length) ∧ ∀ i, i < (kidsF kid).length → (enc k p v kid).drop ((enc k p v kid).length - 32) = (kidsF kid).getD i [])) := by
  have getD_mem : ∀ (l : List Bs) i, i < l.length → l.getD i [] ∈ l := by
    intro l i hi
    rw [List.getD_eq_getElem?_getD, List.getElem?_eq_getElem hi]
    exact List.getElem_mem hi
  unfold chk at h
  split at h
  · subst k
    simp at h
    have hk := no_kid h.1.1.1
    rw [hk]
    exact ⟨fun i hi => by simp at hi, .inr ⟨by decide, rfl, fun h => by simp at h, fun i hi => by simp at hi⟩⟩
  · split at h
    · subst k
      simp only [Bool.and_eq_true] at h
      have h32 : (kid 0).length = 32 := by simpa [all32] using h.1.1.2
      have hk := one_kid h.1.1.1 h32
      rw [hk]
      have he : enc 2 p v kid = (2 :: text (pack p false).1) ++ kid 0 := by simp [enc]
      refine ⟨fun i hi => ?_, .inr ⟨by decide, rfl, fun _ => by rw [he, List.length_append]; omega, fun i hi => ?_⟩⟩
      · obtain rfl : i = 0 := by simpa using hi
        exact h32
      · obtain rfl : i = 0 := by simpa using hi
        rw [he, List.length_append, h32, Nat.add_sub_cancel, List.drop_left]
        rfl
    · split at h
      · subst k
        simp only [Bool.and_eq_true] at h
        have ha : ∀ x ∈ kidsF kid, x.length = 32 := by simpa [all32] using h.1.1.2
        have he : enc 3 p v kid = [3, UInt8.ofNat (hiK kid), UInt8.ofNat (loK kid)] ++ ((kidsF kid).flatten ++ text v) := by simp [enc]
        obtain ⟨h1, h2⟩ := flat_at (kidsF kid) (text v) ha
        refine ⟨fun i hi => ha _ (getD_mem _ i hi), .inl ⟨rfl, ?_, fun i hi => ?_⟩⟩
        · rw [he, List.length_append]
          simp only [List.length_cons, List.length_nil]
          omega
        · rw [he, ← h2 i hi, Nat.add_comm 3]
          rfl
      · cases h

end Pl
end Go.Proofs.YtmldonbmjgelnaaDoor
