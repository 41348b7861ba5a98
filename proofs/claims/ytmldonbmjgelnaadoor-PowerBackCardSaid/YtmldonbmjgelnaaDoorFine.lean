/- Layer 8, plain: the program's and the document's answer to 'may a node be' are one. -/
import Derived.Test.YtmldonbmjgelnaaDoorBack
set_option linter.unusedSimpArgs false
set_option linter.unusedVariables false
namespace Go.Proofs.YtmldonbmjgelnaaDoor
namespace Pl

theorem kidsTo_nil {kid : Nat → Bs} : ∀ n, (∀ i, i < n → kid i = []) → kidsTo kid n = []
  | 0, _ => rfl
  | n + 1, h => by rw [kidsTo_succ, kidsTo_nil n (fun i hi => h i (by omega)), h n (by omega)]; rfl
theorem kidsTo_mono (kid : Nat → Bs) (n : Nat) : (kidsTo kid n).length ≤ (kidsTo kid (n + 1)).length := by
  rw [kidsTo_succ]; simp
theorem kidsTo_le (kid : Nat → Bs) {n m : Nat} (h : n ≤ m) : (kidsTo kid n).length ≤ (kidsTo kid m).length := by
  induction h with
  | refl => exact Nat.le_refl _
  | step _ ih => exact Nat.le_trans ih (kidsTo_mono kid _)
theorem none_iff (kid : Nat → Bs) : noKids kid = true ↔ (kidsF kid).length = 0 := by
  constructor
  · intro h
    have h1 : kidL kid = kidL noK := by
      simp only [noKids, sameL, decide_eq_true_eq] at h
      rw [h]; rfl
    unfold kidsF
    rw [kidsTo_nil 16 (fun i hi => kidL_eq h1 i hi)]
    rfl
  · intro h
    have h1 : ∀ i, i < 16 → kid i = [] := fun i hi => by
      by_cases he : kid i = []
      · exact he
      · exfalso
        have := kidsTo_le kid (show i + 1 ≤ 16 by omega)
        rw [kidsTo_succ, if_neg he] at this
        simp [kidsF] at h this
        rw [h] at this
        simp at this
    have h2 : kidL kid = kidL noK := kidL_of (fun i hi => h1 i hi)
    simp only [noKids, sameL, decide_eq_true_eq]
    rw [h2]; rfl

theorem kidsTo_one {kid : Nat → Bs} (h0 : kid 0 ≠ []) : ∀ n, n ≤ 15 → (∀ i, 1 ≤ i → i < n + 1 → kid i = []) → kidsTo kid (n + 1) = [kid 0]
  | 0, _, _ => by rw [kidsTo_succ, if_neg h0]; rfl
  | n + 1, hn, h => by rw [kidsTo_succ, kidsTo_one h0 n (by omega) (fun i h1 h2 => h i h1 (by omega)), h (n + 1) (by omega) (by omega)]; rfl
theorem one_rest {kid : Nat → Bs} (h0 : kid 0 ≠ []) (h : (kidsF kid).length = 1) (i : Nat) (h1 : 1 ≤ i) (hi : i < 16) : kid i = [] := by
  by_cases he : kid i = []
  · exact he
  · exfalso
    have a := kidsTo_le kid (show i + 1 ≤ 16 by omega)
    have b := kidsTo_le kid (show 0 + 1 ≤ i by omega)
    rw [kidsTo_succ, if_neg h0] at b
    rw [kidsTo_succ, if_neg he] at a
    have h' : (kidsTo kid 16).length = 1 := h
    simp at a b
    omega
theorem one_iff (kid : Nat → Bs) : (oneKidX kid (kid 0) && all32 [kid 0]) = true ↔ all32 (kidsF kid) = true ∧ (kidsF kid).length = 1 ∧ kid 0 ≠ [] := by
  rw [Bool.and_eq_true]
  constructor
  · rintro ⟨h, h32⟩
    have h1 : kidL kid = kidL (upd noK 0 (kid 0)) := by
      simp only [oneKidX, sameL, decide_eq_true_eq] at h
      rw [h]; rfl
    have h0 : kid 0 ≠ [] := fun e => by rw [e] at h32; exact absurd h32 (by decide)
    have hf : kidsF kid = [kid 0] := kidsTo_one h0 15 (by omega) (fun i h2 h3 => by
      have := kidL_eq h1 i (by omega)
      rw [this]; unfold upd; rw [if_neg (by omega)]; rfl)
    rw [hf]
    exact ⟨h32, rfl, h0⟩
  · rintro ⟨h32, hl, h0⟩
    have hr := one_rest h0 hl
    have hf : kidsF kid = [kid 0] := kidsTo_one h0 15 (by omega) (fun i h2 h3 => hr i h2 (by omega))
    rw [hf] at h32
    refine ⟨?_, h32⟩
    have h2 : kidL kid = kidL (upd noK 0 (kid 0)) := kidL_of (fun i hi => by
      unfold upd
      by_cases h3 : i = 0
      · subst h3; rw [if_pos rfl]
      · rw [if_neg h3]; exact hr i (by omega) hi)
    simp only [oneKidX, sameL, decide_eq_true_eq]
    rw [h2]; rfl
theorem all32_nil {l : List Bs} (h : l.length = 0) : all32 l = true := by
  rw [List.length_eq_zero_iff.1 h]; rfl
theorem fine_chk (kind : Int) (path val : Bs) (kid : Nat → Bs) : fineR kind path val kid = chk kind path val kid := by
  rw [Bool.eq_iff_iff]
  unfold fineR chk
  by_cases k1 : kind = 1
  · simp only [if_pos k1]
    have hn := none_iff kid
    constructor
    · intro h
      split at h
      · cases h
      · split at h
        · cases h
        · rename_i ha hb
          simp at h hb
          simp [pathOk, hn.2 (by simp [h.1])]
          refine ⟨⟨⟨?_, ?_⟩, h.2⟩, ?_⟩
          · cases hf : fit path <;> simp [hf] at hb ⊢
          · omega
          · omega
    · intro h
      simp [pathOk] at h
      have hl := hn.1 h.1.1.1
      rw [if_neg (by simp [all32_nil hl]), if_neg (by simp [h.1.1.2.1]; omega)]
      simp [hl, h.1.2]
  · by_cases k2 : kind = 2
    · simp only [if_neg k1, if_pos k2]
      have ho := one_iff kid
      constructor
      · intro h
        split at h
        · cases h
        · split at h
          · cases h
          · rename_i ha hb
            simp at h hb ha
            have ho2 := ho.2 ⟨ha, h.1.1.1, h.1.1.2⟩
            rw [Bool.and_eq_true] at ho2
            simp [pathOk, ho2.1, ho2.2, h.2]
            refine ⟨⟨?_, by have := h.1.2; omega⟩, ?_⟩
            · cases hf : fit path <;> simp [hf] at hb ⊢
            · omega
      · intro h
        simp only [pathOk, Bool.and_eq_true] at h
        obtain ⟨⟨⟨h1, h2⟩, ⟨⟨h3, h4⟩, h5⟩⟩, h6⟩ := h
        obtain ⟨q1, q2, q3⟩ := ho.1 (by rw [h1, h2]; rfl)
        have hv : val = [] := by simpa using h6
        subst hv
        have h4' : 1 ≤ path.length := by
          have h4i : (1 : Int) ≤ (path.length : Int) := by simpa using h4
          omega
        have h5' : path.length ≤ 16 := by simpa using h5
        rw [if_neg (by simp [q1]), if_neg (by simp [h3]; omega)]
        simp [q2, q3, h4']
    · by_cases k3 : kind = 3
      · simp only [if_neg k1, if_neg k2, if_pos k3]
        constructor
        · intro h
          split at h
          · cases h
          · split at h
            · cases h
            · rename_i ha hb
              have ha' : all32 (kidsF kid) = true := by simpa using ha
              simp only [not_or] at hb
              obtain ⟨_, _, hv⟩ := hb
              simp at h
              obtain ⟨hp, h⟩ := h
              subst hp
              simp only [ha', Bool.and_eq_true, decide_eq_true_eq, List.isEmpty_nil]
              refine ⟨⟨⟨by simp, by simp⟩, ?_⟩, by omega⟩
              rcases h with h | ⟨h, h2⟩
              · omega
              · simp [h, h2]
        · intro h
          simp only [Bool.and_eq_true, decide_eq_true_eq] at h
          obtain ⟨⟨⟨h1, h2⟩, h3⟩, h4⟩ := h
          have hp : path = [] := by simpa using h1
          subst hp
          rw [if_neg (by simp [h2]), if_neg (by simp [fit]; omega)]
          by_cases hv : val.isEmpty = true
          · rw [if_pos hv] at h3
            simp; omega
          · rw [if_neg hv] at h3
            simp at hv
            simp [hv]; omega
      · simp only [if_neg k1, if_neg k2, if_neg k3]
        constructor
        · intro h
          split at h
          · cases h
          · split at h <;> cases h
        · intro h; cases h

end Pl
end Go.Proofs.YtmldonbmjgelnaaDoor
