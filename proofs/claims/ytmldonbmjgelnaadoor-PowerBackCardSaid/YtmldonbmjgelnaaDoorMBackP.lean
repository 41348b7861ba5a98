/- Plain: a set that may be is told by its bytes. -/
import Derived.Test.YtmldonbmjgelnaaDoorMRdecP
set_option linter.unusedSimpArgs false
set_option linter.unusedVariables false
namespace Go.Proofs.YtmldonbmjgelnaaDoor
namespace Pl

theorem mNum_num (n : Nat) (h : n < 9223372036854775808) (r : Bs) : mNum (num n ++ r) 0 = (n, r, 0) := by
  unfold mNum
  rw [take_num n h r]
  simp
theorem mSt_enc (l : List (Bs × Int)) (hl : l.length ≤ 7) (h : ∀ i, i < l.length → (l.getD i ([], 0)).1.length ≤ 6 ∧ 1 ≤ (l.getD i ([], 0)).2 ∧ (l.getD i ([], 0)).2 ≤ 1000) :
    ∀ i, i ≤ l.length → mSt (encM l) i = (l.take i, memsB (l.drop i), 0)
  | 0, _ => by simp [mSt, encM, mNum_num l.length (by omega)]
  | i + 1, hi => by
    have ih := mSt_enc l hl h i (by omega)
    obtain ⟨h1, h2, h3⟩ := h i (by omega)
    rw [mSt_succ, ih, drop_getD l i (by omega), take_getD l i (by omega)]
    generalize l.getD i ([], 0) = x at *
    obtain ⟨n, p⟩ := x
    simp only at h1 h2 h3
    simp only [stepM, memsB]
    rw [List.append_assoc, mText_text n 6 (by omega) (by omega)]
    simp only
    rw [mNum_num p.toNat (by omega)]
    simp only [Prod.mk.injEq, List.append_cancel_left_eq, List.cons.injEq, and_true, true_and]
    omega
theorem decM_enc (l : List (Bs × Int)) (hc : chkM l = true) : decM (encM l) = (l, 0) := by
  have hc2 := hc
  simp only [chkM, Bool.and_eq_true, decide_eq_true_eq] at hc2
  have h := mSt_enc l hc2.1.2 (okM_at l [] hc2.2) l.length (by omega)
  have hn : (mNum (encM l) 0).1 = l.length := by rw [encM, mNum_num l.length (by omega)]
  unfold decM
  rw [hn, h]
  simp only [List.take_length, List.drop_length, memsB]
  rw [if_pos ⟨by simp [mEnd], hc⟩]
theorem decM_two (s : Bs) : (∃ l, decM s = (l, 0) ∧ chkM l = true ∧ encM l = s) ∨ decM s = ([], 3) := by
  rw [← rdecM_dec]
  unfold rdecM
  split
  · rename_i h
    exact .inl ⟨_, rfl, h.2.2.2.1, h.2.2.2.2⟩
  · exact .inr rfl

end Pl
end Go.Proofs.YtmldonbmjgelnaaDoor
