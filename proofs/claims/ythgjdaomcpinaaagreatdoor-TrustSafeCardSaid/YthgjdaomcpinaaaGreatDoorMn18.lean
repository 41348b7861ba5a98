/- Eats, RdecP, MRdecP, MBackP, TrustP. -/
import Derived.Test.YthgjdaomcpinaaaGreatDoorMn10
import Derived.Test.YthgjdaomcpinaaaGreatDoorMn14
import Derived.Test.YthgjdaomcpinaaaGreatDoorMn17
set_option linter.unnecessarySimpa false

/- Layers 1, 2, 8, plain: a reader that ends well has eaten just the bytes that would be written. -/
set_option linter.unusedSimpArgs false
set_option linter.unusedVariables false
namespace Go.Proofs.YthgjdaomcpinaaaGreatDoor
namespace Pl

theorem ofP_consE (c : UInt8) (r : Bs) : ofP (c :: r) = UInt8.ofNat (c.toNat / 16) :: UInt8.ofNat (c.toNat % 16) :: ofP r := by simp [ofP]
theorem fit_ofP (r : Bs) : fit (ofP r) = true := by
  induction r with
  | nil => rfl
  | cons c r ih =>
    have hc := c.toNat_lt
    rw [ofP_consE]
    unfold fit at ih ⊢
    simp only [List.all_cons, ih, Bool.and_true, Bool.and_eq_true, decide_eq_true_eq]
    constructor
    · simp; omega
    · simp; omega
theorem joined_ofP (r : Bs) : joined (ofP r) = r := by
  induction r with
  | nil => rfl
  | cons c r ih =>
    have hc := c.toNat_lt
    rw [ofP_consE, joined, ih]
    congr 1
    rw [← UInt8.toNat_inj]
    simp
    omega
theorem pack_unpack (s : Bs) (h : (unpack s).2.2 = 0) : (pack (unpack s).1 (unpack s).2.1).1 = s ∧ fit (unpack s).1 = true := by
  cases s with
  | nil => exact absurd h (by decide)
  | cons c r =>
    have hc := c.toNat_lt
    by_cases h1 : 3 < c.toNat / 16 ∨ (c.toNat / 16 % 2 = 0 ∧ c.toNat % 16 ≠ 0)
    · rw [unpack, if_pos h1] at h
      exact absurd h (by simp)
    · rw [show unpack (c :: r) = ((if c.toNat / 16 % 2 = 1 then UInt8.ofNat (c.toNat % 16) :: ofP r else ofP r), decide (2 ≤ c.toNat / 16), 0) from by rw [unpack, if_neg h1]]
      simp only [not_or, not_and, Nat.not_lt] at h1
      obtain ⟨h3, h4⟩ := h1
      by_cases ho : c.toNat / 16 % 2 = 1
      · simp only [if_pos ho]
        have hf : fit (UInt8.ofNat (c.toNat % 16) :: ofP r) = true := by
          have := fit_ofP r
          unfold fit at this ⊢
          simp only [List.all_cons, this, Bool.and_true, decide_eq_true_eq]
          simp; omega
        refine ⟨?_, hf⟩
        unfold pack
        have hl := ofP_len r
        rw [if_neg (by simp [hf]), if_pos (by simp [hl])]
        simp only [List.headD_cons, List.tail_cons, joined_ofP]
        congr 1
        rw [← UInt8.toNat_inj]
        by_cases h2 : 2 ≤ c.toNat / 16
        · simp [h2]; omega
        · simp [h2]; omega
      · simp only [if_neg ho]
        have hl := ofP_len r
        refine ⟨?_, fit_ofP r⟩
        unfold pack
        rw [if_neg (by simp [fit_ofP]), if_neg (by simp [hl])]
        simp only [joined_ofP]
        congr 1
        have h5 : c.toNat % 16 = 0 := by
          by_cases h6 : c.toNat % 16 = 0
          · exact h6
          · exact absurd (h4 (by omega)) (by simpa using h6)
        rw [← UInt8.toNat_inj]
        by_cases h2 : 2 ≤ c.toNat / 16
        · simp [h2]; omega
        · simp [h2]; omega

/-- A code that is not 0 stays. -/
theorem mBytes_bad (s : Bs) (c n : Int) (h : c ≠ 0) : mBytes s c n = ([], s, c) := by unfold mBytes; rw [if_pos h]
theorem mText_bad (s : Bs) (c most : Int) (h : c ≠ 0) : mText s c most = ([], s, c) := by unfold mText; rw [if_pos h]
theorem rdKids_same (set : Nat) (s : Bs) (c : Int) : ∀ k i, k ≤ i → (rdKids set s c k).1 i = []
  | 0, _, _ => rfl
  | k + 1, i, h => by
    rw [rdKids]
    split
    · simp only [upd]
      rw [if_neg (by omega)]
      exact rdKids_same set s c k i (by omega)
    · exact rdKids_same set s c k i (by omega)
/-- Kids that are read well: the bytes are theirs, and their bits are those asked for. -/
theorem rdKids_eats (set : Nat) (s : Bs) (c : Int) : ∀ k, k ≤ 16 → (rdKids set s c k).2.2 = 0 →
    c = 0 ∧ s = (kidsTo (rdKids set s c k).1 k).flatten ++ (rdKids set s c k).2.1 ∧ ∀ i, i < k → bitv (rdKids set s c k).1 i = set / 2 ^ (15 - i) % 2
  | 0, _, h => ⟨h, by simp [kidsTo, rdKids], fun i hi => by omega⟩
  | k + 1, hk, h => by
    rw [rdKids] at h ⊢
    by_cases hb : set / 2 ^ (15 - k) % 2 = 1
    · rw [if_pos hb] at h ⊢
      have he := mBytes_eats (rdKids set s c k).2.1 (rdKids set s c k).2.2 32 h
      obtain ⟨e1, e2, e3⟩ := he
      obtain ⟨a1, a2, a3⟩ := rdKids_eats set s c k (by omega) e1
      have hsame : kidsTo (upd (rdKids set s c k).1 k (mBytes (rdKids set s c k).2.1 (rdKids set s c k).2.2 32).1) k = kidsTo (rdKids set s c k).1 k := by
        unfold kidsTo
        congr 1
        apply List.map_congr_left
        intro i hi
        have : i < k := by simpa using hi
        simp only [upd]
        rw [if_neg (by omega)]
      refine ⟨a1, ?_, fun i hi => ?_⟩
      · rw [flat_succ, hsame]
        simp only [upd, if_true]
        rw [List.append_assoc]
        have e2' : (rdKids set s c k).2.1 = (mBytes (rdKids set s c k).2.1 (rdKids set s c k).2.2 32).1 ++ (mBytes (rdKids set s c k).2.1 (rdKids set s c k).2.2 32).2.1 := e2
        rw [← e2']
        exact a2
      · by_cases hik : i = k
        · subst hik
          have e3' : (mBytes (rdKids set s c i).2.1 (rdKids set s c i).2.2 32).1.length = 32 := e3
          rw [hb]
          simp only [bitv, upd, if_true]
          rw [if_neg (fun e => by rw [e] at e3'; simp at e3')]
        · rw [← a3 i (by omega)]
          simp [bitv, upd, hik]
    · rw [if_neg hb] at h ⊢
      obtain ⟨a1, a2, a3⟩ := rdKids_eats set s c k (by omega) h
      have h0 := rdKids_same set s c k k (Nat.le_refl _)
      refine ⟨a1, ?_, fun i hi => ?_⟩
      · rw [flat_succ, h0, List.append_nil]
        exact a2
      · by_cases hik : i = k
        · subst hik
          rw [bitv, if_pos h0]; omega
        · exact a3 i (by omega)

theorem numTo_bits (kid : Nat → Bs) (set : Nat) (hs : set < 65536) (h : ∀ i, i < 16 → bitv kid i = set / 2 ^ (15 - i) % 2) : ∀ n, n ≤ 16 → numTo kid n = set / 2 ^ (16 - n)
  | 0, _ => by rw [numTo]; exact (Nat.div_eq_of_lt (by simpa using hs)).symm
  | n + 1, hn => by
    rw [numTo, numTo_bits kid set hs h n (by omega), h n (by omega), show 16 - n = (15 - n) + 1 from by omega, show 16 - (n + 1) = 15 - n from by omega, Nat.pow_succ, ← Nat.div_div_eq_div_mul]
    omega
/-- What a branch's bytes tell is written as those bytes. -/
theorem rdB_eats (a b : UInt8) (r : Bs) (h : (rdB (a.toNat * 256 + b.toNat) r).2.2 = 0) :
    3 :: a :: b :: r = enc 3 [] (rdB (a.toNat * 256 + b.toNat) r).1.val (rdB (a.toNat * 256 + b.toNat) r).1.kid ++ (rdB (a.toNat * 256 + b.toNat) r).2.1 := by
  have ha := a.toNat_lt
  have hb := b.toNat_lt
  generalize hset : a.toNat * 256 + b.toNat = set at *
  obtain ⟨e1, e2, _⟩ := mText_eats (rdKids set r 0 16).2.1 (rdKids set r 0 16).2.2 32 h
  obtain ⟨_, a2, a3⟩ := rdKids_eats set r 0 16 (by omega) e1
  have hn := numTo_bits (rdKids set r 0 16).1 set (by omega) a3 16 (by omega)
  have h8 := numTo_bits (rdKids set r 0 16).1 set (by omega) a3 8 (by omega)
  simp at hn h8
  have hh : UInt8.ofNat (hiK (rdKids set r 0 16).1) = a := by
    rw [← UInt8.toNat_inj]; unfold hiK; rw [h8]; simp; omega
  have hl : UInt8.ofNat (loK (rdKids set r 0 16).1) = b := by
    rw [← UInt8.toNat_inj]; unfold loK; rw [hn]; simp; omega
  show _ = enc 3 [] (mText (rdKids set r 0 16).2.1 (rdKids set r 0 16).2.2 32).1 (rdKids set r 0 16).1 ++ (mText (rdKids set r 0 16).2.1 (rdKids set r 0 16).2.2 32).2.1
  have he : enc 3 [] (mText (rdKids set r 0 16).2.1 (rdKids set r 0 16).2.2 32).1 (rdKids set r 0 16).1 = 3 :: a :: b :: ((kidsTo (rdKids set r 0 16).1 16).flatten ++ text (mText (rdKids set r 0 16).2.1 (rdKids set r 0 16).2.2 32).1) := by
    simp [enc, hh, hl, kidsF]
  rw [he]
  simp only [List.cons_append, List.append_assoc]
  rw [← e2, ← a2]

theorem rdL_eats (r : Bs) (h : (rdL r 0).2.2 = 0) (hu : (unpack (mText r 0 16).1).2.2 = 0) (hl : (unpack (mText r 0 16).1).2.1 = true) :
    1 :: r = enc 1 (rdL r 0).1.path (rdL r 0).1.val noK ++ (rdL r 0).2.1 := by
  obtain ⟨e1, e2, _⟩ := mText_eats (mText r 0 16).2.1 (mText r 0 16).2.2 32 h
  obtain ⟨_, f2, _⟩ := mText_eats r 0 16 e1
  obtain ⟨p1, _⟩ := pack_unpack _ hu
  rw [hl] at p1
  show _ = enc 1 (unpack (mText r 0 16).1).1 (mText (mText r 0 16).2.1 (mText r 0 16).2.2 32).1 noK ++ (mText (mText r 0 16).2.1 (mText r 0 16).2.2 32).2.1
  rw [show enc 1 (unpack (mText r 0 16).1).1 (mText (mText r 0 16).2.1 (mText r 0 16).2.2 32).1 noK = 1 :: (text (mText r 0 16).1 ++ text (mText (mText r 0 16).2.1 (mText r 0 16).2.2 32).1) from by simp [enc, p1]]
  simp only [List.cons_append, List.append_assoc]
  rw [← e2, ← f2]
theorem rdE_eats (r : Bs) (h : (rdE 2 r 0).2.2 = 0) (hu : (unpack (mText r 0 16).1).2.2 = 0) (hl : (unpack (mText r 0 16).1).2.1 = false) :
    2 :: r = enc 2 (rdE 2 r 0).1.path [] (rdE 2 r 0).1.kid ++ (rdE 2 r 0).2.1 := by
  obtain ⟨e1, e2, _⟩ := mBytes_eats (mText r 0 16).2.1 (mText r 0 16).2.2 32 h
  obtain ⟨_, f2, _⟩ := mText_eats r 0 16 e1
  obtain ⟨p1, _⟩ := pack_unpack _ hu
  rw [hl] at p1
  show _ = enc 2 (unpack (mText r 0 16).1).1 [] (upd noK 0 (mBytes (mText r 0 16).2.1 (mText r 0 16).2.2 32).1) ++ (mBytes (mText r 0 16).2.1 (mText r 0 16).2.2 32).2.1
  rw [show enc 2 (unpack (mText r 0 16).1).1 [] (upd noK 0 (mBytes (mText r 0 16).2.1 (mText r 0 16).2.2 32).1) = 2 :: (text (mText r 0 16).1 ++ (mBytes (mText r 0 16).2.1 (mText r 0 16).2.2 32).1) from by simp [enc, p1, upd]]
  simp only [List.cons_append, List.append_assoc]
  have e2' : (mText r 0 16).2.1 = (mBytes (mText r 0 16).2.1 (mText r 0 16).2.2 32).1 ++ (mBytes (mText r 0 16).2.1 (mText r 0 16).2.2 32).2.1 := e2
  rw [← e2', ← f2]

end Pl
end Go.Proofs.YthgjdaomcpinaaaGreatDoor

/- Layer 8, plain: the document's node of bytes is the program's. -/
set_option linter.unusedSimpArgs false
set_option linter.unusedVariables false
namespace Go.Proofs.YthgjdaomcpinaaaGreatDoor
namespace Pl

/-- The document's end: is what was read fine, and written as the bytes? -/
def rfinC (s : Bs) (x : Nd × Bs × Int) : Prop := x.2.2 = 0 ∧ fineR x.1.kind x.1.path x.1.val x.1.kid = true ∧ enc x.1.kind x.1.path x.1.val x.1.kid = s
instance (s : Bs) (x : Nd × Bs × Int) : Decidable (rfinC s x) := by unfold rfinC; infer_instance
def rfin (s : Bs) (x : Nd × Bs × Int) : Nd × Int := if rfinC s x then (x.1, 0) else (ndZ, 80)
def qL (r : Bs) : Nd × Bs × Int :=
  (⟨1, (unpack (mText r 0 100).1).1, (mText (mText r 0 100).2.1 (mText r 0 100).2.2 32).1, noK⟩, (mText (mText r 0 100).2.1 (mText r 0 100).2.2 32).2)
def qE (k : Int) (r : Bs) : Nd × Bs × Int :=
  (⟨k, (unpack (mText r 0 100).1).1, [], upd noK 0 (mBytes (mText r 0 100).2.1 (mText r 0 100).2.2 32).1⟩, (mBytes (mText r 0 100).2.1 (mText r 0 100).2.2 32).2)
def rdec : Bs → Nd × Int
  | [] => (ndZ, 80)
  | k :: r =>
    if k = 3 then match r with
      | a :: b :: r' => rfin (3 :: a :: b :: r') (rdB (a.toNat * 256 + b.toNat) r')
      | _ => (ndZ, 80)
    else if (unpack (mText r 0 100).1).2.2 ≠ 0 then (ndZ, 80)
    else if k = 1 then rfin (1 :: r) (qL r)
    else rfin (k :: r) (qE k.toNat r)

theorem tx_more (r : Bs) (h : (tx r 16).2.2 = 0) : tx r 100 = tx r 16 := by
  unfold tx at h ⊢
  split at h
  · rename_i h1; exact absurd h h1
  · rename_i h1
    rw [if_neg h1, if_neg h1]
    split at h
    · cases h
    · rename_i h2
      rw [if_neg h2, if_neg (by omega)]
theorem mText_more (r : Bs) (h : (mText r 0 16).2.2 = 0) : mText r 0 100 = mText r 0 16 := by
  have h2 : (tx r 16).2.2 = 0 := by
    unfold mText at h
    split at h
    · rename_i h1; exact absurd rfl h1
    · split at h
      · exact h
      · rename_i h1; exact Decidable.not_not.1 h1
  unfold mText
  rw [tx_more r h2]
theorem mEnd_zero {s : Bs} {c : Int} (h : mEnd s c = 0) : c = 0 ∧ s = [] := by
  unfold mEnd at h
  split at h
  · cases h
  · rename_i h1
    subst h
    exact ⟨rfl, by simpa using h1⟩
theorem rfin_dec (s : Bs) (x : Nd × Bs × Int) (hk : ∀ i, 16 ≤ i → x.1.kid i = []) (h : rfinC s x) : dec s = (x.1, 0) := by
  obtain ⟨h1, h2, h3⟩ := h
  rw [fine_chk] at h2
  have h4 := rdN_enc _ _ _ _ h2 []
  rw [List.append_nil, h3] at h4
  have hc : cut x.1.kid 16 = x.1.kid := by
    funext i
    unfold cut
    split
    · rfl
    · exact (hk i (by omega)).symm
  rw [hc] at h4
  rw [dec_rdN, h4]
  unfold decEnd
  rw [if_pos ⟨by simp [mEnd], rfl, h2⟩]
theorem rfin_join (s : Bs) (x y : Nd × Bs × Int) (f : Bool) (hk : ∀ i, 16 ≤ i → x.1.kid i = []) (hd : dec s = decEnd y f)
    (h : mEnd y.2.1 y.2.2 = 0 → f = true → chk y.1.kind y.1.path y.1.val y.1.kid = true → x = y ∧ enc y.1.kind y.1.path y.1.val y.1.kid = s) : rfin s x = dec s := by
  by_cases hc : rfinC s x
  · rw [rfin, if_pos hc, rfin_dec s x hk hc]
  · rw [rfin, if_neg hc, hd, decEnd, if_neg]
    rintro ⟨h1, h2, h3⟩
    obtain ⟨h4, h5⟩ := h h1 h2 h3
    subst h4
    exact hc ⟨(mEnd_zero h1).1, by rw [fine_chk]; exact h3, h5⟩
theorem chk_kind {k : Int} {p v : Bs} {kid : Nat → Bs} (h : chk k p v kid = true) (h1 : k ≠ 1) (h3 : k ≠ 3) : k = 2 := by
  by_cases h2 : k = 2
  · exact h2
  · unfold chk at h
    rw [if_neg h1, if_neg h2, if_neg h3] at h; cases h

theorem rdec_dec (s : Bs) : rdec s = dec s := by
  match s with
  | [] => rfl
  | k :: r =>
    by_cases h3 : k = 3
    · subst h3
      match r with
      | [] => rfl
      | [x] => rfl
      | a :: b :: r' =>
        rw [show rdec (3 :: a :: b :: r') = rfin (3 :: a :: b :: r') (rdB (a.toNat * 256 + b.toNat) r') from by simp [rdec]]
        refine rfin_join _ _ (rdB (a.toNat * 256 + b.toNat) r') true (fun i hi => rdKids_same _ _ _ 16 i hi) (by simp [dec]) ?_
        intro h1 _ h4
        obtain ⟨h5, h6⟩ := mEnd_zero h1
        have h7 := rdB_eats a b r' h5
        rw [h6, List.append_nil] at h7
        exact ⟨rfl, h7.symm⟩
    · by_cases h1 : k = 1
      · subst h1
        have hd : dec (1 :: r) = decEnd (rdL r 0) (decide ((unpack (mText r 0 16).1).2.2 = 0) && (unpack (mText r 0 16).1).2.1) := by simp [dec]
        have hq : (unpack (mText r 0 100).1).2.2 = 0 → rdec (1 :: r) = rfin (1 :: r) (qL r) := fun h => by simp [rdec, h]
        have hn : (unpack (mText r 0 100).1).2.2 ≠ 0 → rdec (1 :: r) = (ndZ, 80) := fun h => by simp [rdec, h]
        by_cases hu : (unpack (mText r 0 100).1).2.2 = 0
        · rw [hq hu]
          refine rfin_join _ _ _ _ (fun i _ => rfl) hd ?_
          intro g1 g2 g3
          obtain ⟨h5, h6⟩ := mEnd_zero g1
          obtain ⟨e1, _, _⟩ := mText_eats (mText r 0 16).2.1 (mText r 0 16).2.2 32 h5
          simp at g2
          have h7 := rdL_eats r h5 g2.1 g2.2
          rw [h6, List.append_nil] at h7
          have hm := mText_more r e1
          exact ⟨by unfold qL rdL; rw [hm, e1], h7.symm⟩
        · rw [hn hu, hd, decEnd, if_neg]
          rintro ⟨g1, g2, g3⟩
          obtain ⟨h5, h6⟩ := mEnd_zero g1
          obtain ⟨e1, _, _⟩ := mText_eats (mText r 0 16).2.1 (mText r 0 16).2.2 32 h5
          rw [mText_more r e1] at hu
          simp at g2
          exact hu g2.1
      · have hd : dec (k :: r) = decEnd (rdE k.toNat r 0) (decide ((unpack (mText r 0 16).1).2.2 = 0) && !(unpack (mText r 0 16).1).2.1) := by simp [dec, h1, h3]
        have hq : (unpack (mText r 0 100).1).2.2 = 0 → rdec (k :: r) = rfin (k :: r) (qE k.toNat r) := fun h => by simp [rdec, h, h1, h3]
        have hn : (unpack (mText r 0 100).1).2.2 ≠ 0 → rdec (k :: r) = (ndZ, 80) := fun h => by simp [rdec, h, h3]
        have hk1 : (k.toNat : Int) ≠ 1 := fun e => h1 (by rw [← UInt8.toNat_inj]; simp; omega)
        have hk3 : (k.toNat : Int) ≠ 3 := fun e => h3 (by rw [← UInt8.toNat_inj]; simp; omega)
        by_cases hu : (unpack (mText r 0 100).1).2.2 = 0
        · rw [hq hu]
          refine rfin_join _ _ _ _ (fun i hi => by simp only [qE, upd]; rw [if_neg (by omega)]; rfl) hd ?_
          intro g1 g2 g3
          have hk2 : (k.toNat : Int) = 2 := chk_kind g3 hk1 hk3
          have hk : k = 2 := by rw [← UInt8.toNat_inj]; simp; omega
          subst hk
          obtain ⟨h5, h6⟩ := mEnd_zero g1
          obtain ⟨e1, _, _⟩ := mBytes_eats (mText r 0 16).2.1 (mText r 0 16).2.2 32 h5
          simp at g2
          have h7 := rdE_eats r h5 g2.1 g2.2
          have h6' : (rdE 2 r 0).2.1 = [] := h6
          rw [h6', List.append_nil] at h7
          have hm := mText_more r e1
          exact ⟨by unfold qE rdE; rw [hm, e1], h7.symm⟩
        · rw [hn hu, hd, decEnd, if_neg]
          rintro ⟨g1, g2, g3⟩
          obtain ⟨h5, h6⟩ := mEnd_zero g1
          obtain ⟨e1, _, _⟩ := mBytes_eats (mText r 0 16).2.1 (mText r 0 16).2.2 32 h5
          rw [mText_more r e1] at hu
          simp at g2
          exact hu g2.1

end Pl
end Go.Proofs.YthgjdaomcpinaaaGreatDoor

/- Plain: the document's set of bytes is the program's. -/
set_option linter.unusedSimpArgs false
set_option linter.unusedVariables false
namespace Go.Proofs.YthgjdaomcpinaaaGreatDoor
namespace Pl

theorem mNum_eats (s : Bs) (c : Int) (h : (mNum s c).2.2 = 0) : c = 0 ∧ s = num (mNum s c).1 ++ (mNum s c).2.1 := by
  unfold mNum at h ⊢
  split at h
  · rename_i hc; exact absurd h hc
  · rename_i hc
    split at h
    · rename_i h2; exact absurd h h2
    · rename_i h2
      have h3 : (take s).2.2 = 0 := by simpa using h2
      rw [if_neg hc, if_neg h2]
      exact ⟨by simpa using hc, take_eats s h3⟩
theorem mSt_eats (s : Bs) : ∀ i, (mSt s i).2.2 = 0 → s = num (mNum s 0).1 ++ (memsB (mSt s i).1 ++ (mSt s i).2.1)
  | 0, h => by simpa [mSt, memsB] using (mNum_eats s 0 h).2
  | i + 1, h => by
    rw [mSt_succ] at h ⊢
    have ih := mSt_eats s i
    generalize mSt s i = x at *
    obtain ⟨l, t, c⟩ := x
    simp only [stepM] at h ⊢
    obtain ⟨h1, h2⟩ := mNum_eats _ _ h
    obtain ⟨h3, h4, _⟩ := mText_eats _ _ _ h1
    subst h3
    have ih := ih rfl
    simp only at ih
    rw [memsB_app]
    simp only [Int.toNat_natCast]
    rw [h2] at h4
    generalize mNum (mText t 0 6).2.1 (mText t 0 6).2.2 = z at *
    rw [List.append_assoc, List.append_assoc, ← h4]
    exact ih
def rdecM (s : Bs) : List (Bs × Int) × Int :=
  if (mNum s 0).2.2 = 0 ∧ (mNum s 0).1 ≤ 7 ∧ (mSt s (mNum s 0).1).2.2 = 0 ∧ chkM (mSt s (mNum s 0).1).1 = true ∧ encM (mSt s (mNum s 0).1).1 = s then ((mSt s (mNum s 0).1).1, 0) else ([], 3)
theorem rdecM_dec (s : Bs) : rdecM s = decM s := by
  have hl := mSt_len s (mNum s 0).1
  have he := mSt_eats s (mNum s 0).1
  have hb : (mNum s 0).2.2 ≠ 0 → (mSt s (mNum s 0).1).2.2 ≠ 0 := by
    intro h
    have := mSt_bad s 0 h (mNum s 0).1
    rwa [Nat.zero_add] at this
  unfold rdecM decM
  generalize mSt s (mNum s 0).1 = x at *
  obtain ⟨l, t, c⟩ := x
  simp only at *
  by_cases hc : c = 0
  · subst hc
    have he := he rfl
    have h0 : (mNum s 0).2.2 = 0 := by
      by_cases h : (mNum s 0).2.2 = 0
      · exact h
      · exact absurd rfl (hb h)
    have he2 : s = encM l ++ t := by rw [encM, hl, List.append_assoc]; exact he
    by_cases hk : chkM l = true
    · have h7 : (mNum s 0).1 ≤ 7 := by
        simp only [chkM, Bool.and_eq_true, decide_eq_true_eq] at hk
        have := hk.1.2
        omega
      by_cases ht : t = []
      · subst ht
        rw [List.append_nil] at he2
        rw [if_pos ⟨h0, h7, rfl, hk, he2.symm⟩, if_pos ⟨by simp [mEnd], hk⟩]
      · rw [if_neg, if_neg]
        · rintro ⟨h, _⟩
          exact ht (mEnd_zero h).2
        · rintro ⟨_, _, _, _, h⟩
          apply ht
          have := congrArg List.length he2
          rw [List.length_append, h] at this
          exact List.eq_nil_of_length_eq_zero (by omega)
    · rw [if_neg (fun h => hk h.2.2.2.1), if_neg (fun h => hk h.2)]
  · rw [if_neg (fun h => hc h.2.2.1), if_neg (fun h => mEnd_bad t c hc h.1)]

end Pl
end Go.Proofs.YthgjdaomcpinaaaGreatDoor

/- Plain: a set that may be is told by its bytes. -/
set_option linter.unusedSimpArgs false
set_option linter.unusedVariables false
namespace Go.Proofs.YthgjdaomcpinaaaGreatDoor
namespace Pl

theorem mNum_num (n : Nat) (h : n < 9223372036854775808) (r : Bs) : mNum (num n ++ r) 0 = (n, r, 0) := by
  unfold mNum
  rw [take_num n h r]
  simp
theorem mSt_enc (l : List (Bs × Int)) (hl : l.length ≤ 7) (h : ∀ i, i < l.length → (l.getD i ([], 0)).1.length ≤ 6 ∧ 1 ≤ (l.getD i ([], 0)).2 ∧ (l.getD i ([], 0)).2 ≤ 1000) :
    ∀ i, i ≤ l.length → mSt (encM l) i = (l.take i, memsB (l.drop i), 0)
  | 0, _ => by simp [mSt, encM, mNum_num l.length (by omega)]
  | i + 1, hi => by
    have ih := mSt_enc l hl h i (by omega)
    obtain ⟨h1, h2, h3⟩ := h i (by omega)
    rw [mSt_succ, ih, drop_getD l i (by omega), take_getD l i (by omega)]
    generalize l.getD i ([], 0) = x at *
    obtain ⟨n, p⟩ := x
    simp only at h1 h2 h3
    simp only [stepM, memsB]
    rw [List.append_assoc, mText_text n 6 (by omega) (by omega)]
    simp only
    rw [mNum_num p.toNat (by omega)]
    simp only [Prod.mk.injEq, List.append_cancel_left_eq, List.cons.injEq, and_true, true_and]
    omega
theorem decM_enc (l : List (Bs × Int)) (hc : chkM l = true) : decM (encM l) = (l, 0) := by
  have hc2 := hc
  simp only [chkM, Bool.and_eq_true, decide_eq_true_eq] at hc2
  have h := mSt_enc l hc2.1.2 (okM_at l [] hc2.2) l.length (by omega)
  have hn : (mNum (encM l) 0).1 = l.length := by rw [encM, mNum_num l.length (by omega)]
  unfold decM
  rw [hn, h]
  simp only [List.take_length, List.drop_length, memsB]
  rw [if_pos ⟨by simp [mEnd], hc⟩]
theorem decM_two (s : Bs) : (∃ l, decM s = (l, 0) ∧ chkM l = true ∧ encM l = s) ∨ decM s = ([], 3) := by
  rw [← rdecM_dec]
  unfold rdecM
  split
  · rename_i h
    exact .inl ⟨_, rfl, h.2.2.2.1, h.2.2.2.2⟩
  · exact .inr rfl

end Pl
end Go.Proofs.YthgjdaomcpinaaaGreatDoor

/- Layer 33, plain: what is trusted, its bytes, and the one of any bytes. -/
set_option linter.unusedSimpArgs false
set_option linter.unusedVariables false
namespace Go.Proofs.YthgjdaomcpinaaaGreatDoor
open Go.RowKit Pl
namespace Pl

structure Tr where
  head : Hd
  set : List (Bs × Int)
  at_ : Int
def trZ : Tr := ⟨hdZ, [], 0⟩
def fineT (t : Tr) : Bool := fineH t.head && inH t.at_ 1099511627776 && chkM t.set && decide (dgM t.set = t.head.next)
def writT (t : Tr) : Bs := text (writH t.head) ++ text (encM t.set) ++ num t.at_.toNat
structure RdT where
  t : Tr
  s : Bs
  c : Int
  e : Int
  f : Int
def rdT (s : Bs) : RdT :=
  let a := mText s 0 65536
  let b := mText a.2.1 a.2.2 65536
  let n := mNum b.2.1 b.2.2
  ⟨⟨(decH a.1).1, (decM b.1).1, n.1⟩, n.2.1, n.2.2, (decH a.1).2, (decM b.1).2⟩
def decT (s : Bs) : Tr × Int := if mEnd (rdT s).s (rdT s).c = 0 ∧ (rdT s).e = 0 ∧ (rdT s).f = 0 ∧ fineT (rdT s).t = true then ((rdT s).t, 0) else (trZ, 3)
def rdecT (s : Bs) : Tr × Int := if (rdT s).c = 0 ∧ fineT (rdT s).t = true ∧ writT (rdT s).t = s then ((rdT s).t, 0) else (trZ, 3)
theorem fineT_parts {t : Tr} (h : fineT t = true) : fineH t.head = true ∧ (0 ≤ t.at_ ∧ t.at_ ≤ 1099511627776) ∧ chkM t.set = true ∧ dgM t.set = t.head.next := by
  unfold fineT inH at h
  simp only [Bool.and_eq_true, decide_eq_true_eq] at h
  exact ⟨h.1.1.1, h.1.1.2, h.1.2, h.2⟩
theorem rdT_eats (s : Bs) (hc : (rdT s).c = 0) (hf : fineT (rdT s).t = true) : (rdT s).e = 0 ∧ (rdT s).f = 0 ∧ s = writT (rdT s).t ++ (rdT s).s := by
  obtain ⟨f1, _, f3, _⟩ := fineT_parts hf
  unfold rdT at hc f1 f3 ⊢
  simp only at hc f1 f3 ⊢
  obtain ⟨h1, e1⟩ := mNumE _ _ hc
  obtain ⟨h2, e2, _⟩ := mText_eats _ _ _ h1
  obtain ⟨_, e3, _⟩ := mText_eats _ _ _ h2
  have hH : (decH (mText s 0 65536).1).2 = 0 ∧ writH (decH (mText s 0 65536).1).1 = (mText s 0 65536).1 := by
    rcases decH_two (mText s 0 65536).1 with h | h
    · exact ⟨h.1, h.2.2⟩
    · rw [h] at f1
      exact absurd f1 (by rw [fine_hdZ]; decide)
  generalize mText s 0 65536 = a at *
  have hM : (decM (mText a.2.1 a.2.2 65536).1).2 = 0 ∧ encM (decM (mText a.2.1 a.2.2 65536).1).1 = (mText a.2.1 a.2.2 65536).1 := by
    rcases decM_two (mText a.2.1 a.2.2 65536).1 with ⟨l, h, _, h3⟩ | h
    · rw [h]
      exact ⟨rfl, h3⟩
    · rw [h] at f3
      exact absurd f3 (by decide)
  generalize mText a.2.1 a.2.2 65536 = b at *
  refine ⟨hH.1, hM.1, ?_⟩
  unfold writT
  simp only [Int.toNat_natCast, hH.2, hM.2, List.append_assoc]
  rw [← e1, ← e2]
  exact e3
theorem rdecT_eq (s : Bs) : rdecT s = decT s := by
  unfold rdecT decT
  by_cases hc : (rdT s).c = 0
  · by_cases hf : fineT (rdT s).t = true
    · obtain ⟨h1, h2, he⟩ := rdT_eats s hc hf
      by_cases hs : (rdT s).s = []
      · rw [hs, List.append_nil] at he
        rw [if_pos ⟨hc, hf, he.symm⟩, if_pos ⟨by simp [mEnd, hc, hs], h1, h2, hf⟩]
      · rw [if_neg, if_neg]
        · rintro ⟨h, _⟩
          exact hs (mEnd0 _ _ h).1
        · rintro ⟨_, _, h⟩
          apply hs
          have := congrArg List.length he
          rw [List.length_append, h] at this
          exact List.eq_nil_of_length_eq_zero (by omega)
    · rw [if_neg (fun h => hf h.2.1), if_neg (fun h => hf h.2.2.2)]
  · rw [if_neg (fun h => hc h.1), if_neg (fun h => hc (mEnd0 _ _ h.1).2)]
theorem decT_two (s : Bs) : ((decT s).2 = 0 ∧ fineT (decT s).1 = true ∧ writT (decT s).1 = s) ∨ decT s = (trZ, 3) := by
  rw [← rdecT_eq]
  unfold rdecT
  split
  · rename_i h
    exact .inl ⟨rfl, h.2.1, h.2.2⟩
  · exact .inr rfl
theorem rdT_writ {t : Tr} (h : fineT t = true) (r : Bs) : rdT (writT t ++ r) = ⟨t, r, 0, 0, 0⟩ := by
  obtain ⟨f1, f2, f3, f4⟩ := fineT_parts h
  have h1 := writH_len f1
  have h2 := encM_len t.set f3
  unfold rdT writT
  simp only [List.append_assoc]
  rw [mText_text _ 65536 (by omega) (by omega)]
  simp only
  rw [mText_text _ 65536 (by omega) (by omega)]
  simp only
  rw [mNumB _ (by omega)]
  simp only
  rw [decH_writ f1, decM_enc _ f3, show ((t.at_.toNat : Nat) : Int) = t.at_ from by omega]
theorem decT_writ {t : Tr} (h : fineT t = true) : decT (writT t) = (t, 0) := by
  have := rdT_writ h []
  rw [List.append_nil] at this
  unfold decT
  rw [this]
  exact if_pos ⟨rfl, rfl, rfl, h⟩
/-- With bytes behind they tell none. -/
theorem decT_more {t : Tr} (h : fineT t = true) (c : UInt8) (r : Bs) : decT (writT t ++ c :: r) = (trZ, 3) := by
  unfold decT
  rw [rdT_writ h]
  exact if_neg (fun h => by have := (mEnd0 _ _ h.1).1; cases this)
theorem writT_len {t : Tr} (h : fineT t = true) : (writT t).length ≤ 2000 := by
  obtain ⟨f1, f2, f3, f4⟩ := fineT_parts h
  have h1 := writH_len f1
  have h2 := encM_len t.set f3
  have h3 := text_len (writH t.head)
  have h4 := text_len (encM t.set)
  have h5 := num_len' t.at_.toNat
  unfold writT
  simp only [List.length_append]
  omega
end Pl
end Go.Proofs.YthgjdaomcpinaaaGreatDoor
