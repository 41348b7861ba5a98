/- Layer 8, plain: the document's node of bytes is the program's. -/
import Derived.Test.YtmldonbmjgelnaaDoorEats
import Derived.Test.YtmldonbmjgelnaaDoorFine
set_option linter.unusedSimpArgs false
set_option linter.unusedVariables false
namespace Go.Proofs.YtmldonbmjgelnaaDoor
namespace Pl

/-- The document's end: is what was read fine, and written as the bytes? -/
def rfinC (s : Bs) (x : Nd × Bs × Int) : Prop := x.2.2 = 0 ∧ fineR x.1.kind x.1.path x.1.val x.1.kid = true ∧ enc x.1.kind x.1.path x.1.val x.1.kid = s
instance (s : Bs) (x : Nd × Bs × Int) : Decidable (rfinC s x) := by unfold rfinC; infer_instance
def rfin (s : Bs) (x : Nd × Bs × Int) : Nd × Int := if rfinC s x then (x.1, 0) else (ndZ, 80)
def qL (r : Bs) : Nd × Bs × Int :=
  (⟨1, (unpack (mText r 0 100).1).1, (mText (mText r 0 100).2.1 (mText r 0 100).2.2 32).1, noK⟩, (mText (mText r 0 100).2.1 (mText r 0 100).2.2 32).2)
def qE (k : Int) (r : Bs) : Nd × Bs × Int :=
  (⟨k, (unpack (mText r 0 100).1).1, [], upd noK 0 (mBytes (mText r 0 100).2.1 (mText r 0 100).2.2 32).1⟩, (mBytes (mText r 0 100).2.1 (mText r 0 100).2.2 32).2)
def rdec : Bs → Nd × Int
  | [] => (ndZ, 80)
  | k :: r =>
    if k = 3 then match r with
      | a :: b :: r' => rfin (3 :: a :: b :: r') (rdB (a.toNat * 256 + b.toNat) r')
      | _ => (ndZ, 80)
    else if (unpack (mText r 0 100).1).2.2 ≠ 0 then (ndZ, 80)
    else if k = 1 then rfin (1 :: r) (qL r)
    else rfin (k :: r) (qE k.toNat r)

theorem tx_more (r : Bs) (h : (tx r 16).2.2 = 0) : tx r 100 = tx r 16 := by
  unfold tx at h ⊢
  split at h
  · rename_i h1; exact absurd h h1
  · rename_i h1
    rw [if_neg h1, if_neg h1]
    split at h
    · cases h
    · rename_i h2
      rw [if_neg h2, if_neg (by omega)]
theorem mText_more (r : Bs) (h : (mText r 0 16).2.2 = 0) : mText r 0 100 = mText r 0 16 := by
  have h2 : (tx r 16).2.2 = 0 := by
    unfold mText at h
    split at h
    · rename_i h1; exact absurd rfl h1
    · split at h
      · exact h
      · rename_i h1; exact Decidable.not_not.1 h1
  unfold mText
  rw [tx_more r h2]
theorem mEnd_zero {s : Bs} {c : Int} (h : mEnd s c = 0) : c = 0 ∧ s = [] := by
  unfold mEnd at h
  split at h
  · cases h
  · rename_i h1
    subst h
    exact ⟨rfl, by simpa using h1⟩
theorem rfin_dec (s : Bs) (x : Nd × Bs × Int) (hk : ∀ i, 16 ≤ i → x.1.kid i = []) (h : rfinC s x) : dec s = (x.1, 0) := by
  obtain ⟨h1, h2, h3⟩ := h
  rw [fine_chk] at h2
  have h4 := rdN_enc _ _ _ _ h2 []
  rw [List.append_nil, h3] at h4
  have hc : cut x.1.kid 16 = x.1.kid := by
    funext i
    unfold cut
    split
    · rfl
    · exact (hk i (by omega)).symm
  rw [hc] at h4
  rw [dec_rdN, h4]
  unfold decEnd
  rw [if_pos ⟨by simp [mEnd], rfl, h2⟩]
theorem rfin_join (s : Bs) (x y : Nd × Bs × Int) (f : Bool) (hk : ∀ i, 16 ≤ i → x.1.kid i = []) (hd : dec s = decEnd y f)
    (h : mEnd y.2.1 y.2.2 = 0 → f = true → chk y.1.kind y.1.path y.1.val y.1.kid = true → x = y ∧ enc y.1.kind y.1.path y.1.val y.1.kid = s) : rfin s x = dec s := by
  by_cases hc : rfinC s x
  · rw [rfin, if_pos hc, rfin_dec s x hk hc]
  · rw [rfin, if_neg hc, hd, decEnd, if_neg]
    rintro ⟨h1, h2, h3⟩
    obtain ⟨h4, h5⟩ := h h1 h2 h3
    subst h4
    exact hc ⟨(mEnd_zero h1).1, by rw [fine_chk]; exact h3, h5⟩
theorem chk_kind {k : Int} {p v : Bs} {kid : Nat → Bs} (h : chk k p v kid = true) (h1 : k ≠ 1) (h3 : k ≠ 3) : k = 2 := by
  by_cases h2 : k = 2
  · exact h2
  · unfold chk at h
    rw [if_neg h1, if_neg h2, if_neg h3] at h; cases h

theorem rdec_dec (s : Bs) : rdec s = dec s := by
  match s with
  | [] => rfl
  | k :: r =>
    by_cases h3 : k = 3
    · subst h3
      match r with
      | [] => rfl
      | [x] => rfl
      | a :: b :: r' =>
        rw [show rdec (3 :: a :: b :: r') = rfin (3 :: a :: b :: r') (rdB (a.toNat * 256 + b.toNat) r') from by simp [rdec]]
        refine rfin_join _ _ (rdB (a.toNat * 256 + b.toNat) r') true (fun i hi => rdKids_same _ _ _ 16 i hi) (by simp [dec]) ?_
        intro h1 _ h4
        obtain ⟨h5, h6⟩ := mEnd_zero h1
        have h7 := rdB_eats a b r' h5
        rw [h6, List.append_nil] at h7
        exact ⟨rfl, h7.symm⟩
    · by_cases h1 : k = 1
      · subst h1
        have hd : dec (1 :: r) = decEnd (rdL r 0) (decide ((unpack (mText r 0 16).1).2.2 = 0) && (unpack (mText r 0 16).1).2.1) := by simp [dec]
        have hq : (unpack (mText r 0 100).1).2.2 = 0 → rdec (1 :: r) = rfin (1 :: r) (qL r) := fun h => by simp [rdec, h]
        have hn : (unpack (mText r 0 100).1).2.2 ≠ 0 → rdec (1 :: r) = (ndZ, 80) := fun h => by simp [rdec, h]
        by_cases hu : (unpack (mText r 0 100).1).2.2 = 0
        · rw [hq hu]
          refine rfin_join _ _ _ _ (fun i _ => rfl) hd ?_
          intro g1 g2 g3
          obtain ⟨h5, h6⟩ := mEnd_zero g1
          obtain ⟨e1, _, _⟩ := mText_eats (mText r 0 16).2.1 (mText r 0 16).2.2 32 h5
          simp at g2
          have h7 := rdL_eats r h5 g2.1 g2.2
          rw [h6, List.append_nil] at h7
          have hm := mText_more r e1
          exact ⟨by unfold qL rdL; rw [hm, e1], h7.symm⟩
        · rw [hn hu, hd, decEnd, if_neg]
          rintro ⟨g1, g2, g3⟩
          obtain ⟨h5, h6⟩ := mEnd_zero g1
          obtain ⟨e1, _, _⟩ := mText_eats (mText r 0 16).2.1 (mText r 0 16).2.2 32 h5
          rw [mText_more r e1] at hu
          simp at g2
          exact hu g2.1
      · have hd : dec (k :: r) = decEnd (rdE k.toNat r 0) (decide ((unpack (mText r 0 16).1).2.2 = 0) && !(unpack (mText r 0 16).1).2.1) := by simp [dec, h1, h3]
        have hq : (unpack (mText r 0 100).1).2.2 = 0 → rdec (k :: r) = rfin (k :: r) (qE k.toNat r) := fun h => by simp [rdec, h, h1, h3]
        have hn : (unpack (mText r 0 100).1).2.2 ≠ 0 → rdec (k :: r) = (ndZ, 80) := fun h => by simp [rdec, h, h3]
        have hk1 : (k.toNat : Int) ≠ 1 := fun e => h1 (by rw [← UInt8.toNat_inj]; simp; omega)
        have hk3 : (k.toNat : Int) ≠ 3 := fun e => h3 (by rw [← UInt8.toNat_inj]; simp; omega)
        by_cases hu : (unpack (mText r 0 100).1).2.2 = 0
        · rw [hq hu]
          refine rfin_join _ _ _ _ (fun i hi => by simp only [qE, upd]; rw [if_neg (by omega)]; rfl) hd ?_
          intro g1 g2 g3
          have hk2 : (k.toNat : Int) = 2 := chk_kind g3 hk1 hk3
          have hk : k = 2 := by rw [← UInt8.toNat_inj]; simp; omega
          subst hk
          obtain ⟨h5, h6⟩ := mEnd_zero g1
          obtain ⟨e1, _, _⟩ := mBytes_eats (mText r 0 16).2.1 (mText r 0 16).2.2 32 h5
          simp at g2
          have h7 := rdE_eats r h5 g2.1 g2.2
          have h6' : (rdE 2 r 0).2.1 = [] := h6
          rw [h6', List.append_nil] at h7
          have hm := mText_more r e1
          exact ⟨by unfold qE rdE; rw [hm, e1], h7.symm⟩
        · rw [hn hu, hd, decEnd, if_neg]
          rintro ⟨g1, g2, g3⟩
          obtain ⟨h5, h6⟩ := mEnd_zero g1
          obtain ⟨e1, _, _⟩ := mBytes_eats (mText r 0 16).2.1 (mText r 0 16).2.2 32 h5
          rw [mText_more r e1] at hu
          simp at g2
          exact hu g2.1

end Pl
end Go.Proofs.YtmldonbmjgelnaaDoor
