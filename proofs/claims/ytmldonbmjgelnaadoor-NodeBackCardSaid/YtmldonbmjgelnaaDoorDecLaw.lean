/- Layer 8, plain: what bytes tell, whole: a node that may be and has these bytes, or nothing. -/
import Derived.Test.YtmldonbmjgelnaaDoorRdecP
set_option linter.unusedSimpArgs false
set_option linter.unusedVariables false
namespace Go.Proofs.YtmldonbmjgelnaaDoor
namespace Pl

theorem rfin_two (s : Bs) (x : Nd × Bs × Int) : (∃ y : Nd, rfin s x = (y, 0) ∧ chk y.kind y.path y.val y.kid = true ∧ enc y.kind y.path y.val y.kid = s) ∨ rfin s x = (ndZ, 80) := by
  by_cases h : rfinC s x
  · exact .inl ⟨x.1, by rw [rfin, if_pos h], by rw [← fine_chk]; exact h.2.1, h.2.2⟩
  · exact .inr (by rw [rfin, if_neg h])
theorem dec_two (s : Bs) : (∃ y : Nd, dec s = (y, 0) ∧ chk y.kind y.path y.val y.kid = true ∧ enc y.kind y.path y.val y.kid = s) ∨ dec s = (ndZ, 80) := by
  rw [← rdec_dec]
  match s with
  | [] => exact .inr rfl
  | k :: r =>
    by_cases h3 : k = 3
    · subst h3
      match r with
      | [] => exact .inr rfl
      | [x] => exact .inr rfl
      | a :: b :: r' =>
        rw [show rdec (3 :: a :: b :: r') = rfin (3 :: a :: b :: r') (rdB (a.toNat * 256 + b.toNat) r') from by simp [rdec]]
        exact rfin_two _ _
    · rw [show rdec (k :: r) = if (unpack (mText r 0 100).1).2.2 ≠ 0 then (ndZ, 80) else if k = 1 then rfin (1 :: r) (qL r) else rfin (k :: r) (qE k.toNat r) from by simp [rdec, h3]]
      split
      · exact .inr rfl
      · split
        · subst_vars; exact rfin_two _ _
        · exact rfin_two _ _
theorem dec_enc (k : Int) (p v : Bs) (kid : Nat → Bs) (h : chk k p v kid = true) : dec (enc k p v kid) = (⟨k, p, v, cut kid 16⟩, 0) := by
  have h4 := rdN_enc _ _ _ _ h []
  rw [List.append_nil] at h4
  rw [dec_rdN, h4]
  unfold decEnd
  have hc : chk k p v (cut kid 16) = true := by
    rw [← h]
    exact chk_of (fun i hi => by simp [cut, hi])
  rw [if_pos ⟨by simp [mEnd], rfl, hc⟩]
theorem dec_more (k : Int) (p v : Bs) (kid : Nat → Bs) (h : chk k p v kid = true) (more : Bs) (hm : more ≠ []) : dec (enc k p v kid ++ more) = (ndZ, 80) := by
  rcases dec_two (enc k p v kid ++ more) with ⟨y, _, hc, he⟩ | hd
  · exact absurd (enc_begins h hc more he).1 hm
  · exact hd
theorem dec_cut (k : Int) (p v : Bs) (kid : Nat → Bs) (h : chk k p v kid = true) (n : Nat) (hn : n < (enc k p v kid).length) : dec ((enc k p v kid).take n) = (ndZ, 80) := by
  rcases dec_two ((enc k p v kid).take n) with ⟨y, _, hc, he⟩ | hd
  · have := (enc_begins hc h ((enc k p v kid).drop n) (by rw [he, List.take_append_drop])).1
    rw [List.drop_eq_nil_iff] at this
    omega
  · exact hd
theorem enc_pos (k : Int) (p v : Bs) (kid : Nat → Bs) (h : chk k p v kid = true) : 1 ≤ (enc k p v kid).length := by
  unfold chk at h
  unfold enc
  split at h
  · simp [*]
  · split at h
    · simp [*]
    · split at h
      · simp [*]
      · cases h
end Pl
end Go.Proofs.YtmldonbmjgelnaaDoor
