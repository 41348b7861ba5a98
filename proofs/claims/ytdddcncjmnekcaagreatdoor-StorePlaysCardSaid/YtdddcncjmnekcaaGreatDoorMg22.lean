/- Ref1U, Eats1, Eats, RdecP. -/
import Derived.Test.YtdddcncjmnekcaaGreatDoorMg2
import Derived.Test.YtdddcncjmnekcaaGreatDoorMg20
import Derived.Test.YtdddcncjmnekcaaGreatDoorMg21
set_option linter.unnecessarySimpa false

/- Walks of the document's answer for layer 1: Unpack. -/
set_option linter.unusedSimpArgs false
set_option linter.unusedVariables false
namespace Go.Proofs.YtdddcncjmnekcaaGreatDoor
open Go.RowKit Pl

theorem runpack_nil (w : World) :
    Calls Tryz.prog 45 #[.string ⟨List.toArray ([])⟩] w fun e w' => e = .returned (.tuple #[.string ⟨List.toArray ([])⟩, .bool false, .int .i64 (3)]) ∧ Below w.heap.size w w' := by
  go_enter Tryz.func45, Tryz.ntmps45
  go_wp2_with fail
  go_ret3
  exact ⟨rfl, Below.refl _ _⟩

set_option maxRecDepth 100000 in
set_option maxHeartbeats 1000000 in
theorem runpack_cons (c : UInt8) (r : Bs) (hs : r.length ≤ 35184372088000) (w : World) :
    Calls Tryz.prog 45 #[.string ⟨List.toArray (c :: r)⟩] w fun e w' => e = .returned (.tuple #[.string ⟨List.toArray ((unpack (c :: r)).1)⟩, .bool (unpack (c :: r)).2.1, .int .i64 ((unpack (c :: r)).2.2)]) ∧ Below w.heap.size w w' := by
  have hcl := c.toNat_lt
  have hofp : ofP (c :: r) = UInt8.ofNat (c.toNat / 16) :: UInt8.ofNat (c.toNat % 16) :: ofP r := by simp [ofP]
  generalize hk : c.toNat / 16 = k at hofp
  generalize hf : c.toNat % 16 = f at hofp
  have HU : Hid (unpack (c :: r) = if 3 < k ∨ (k % 2 = 0 ∧ f ≠ 0) then ([], false, 3)
    else ((if k % 2 = 1 then UInt8.ofNat f :: ofP r else ofP r), decide (2 ≤ k), 0)) := Lib.hid (by simp only [unpack, hk, hf])
  have hk16 : k < 16 := by omega
  have hfl : f < 16 := by omega
  clear hk hf
  generalize hx : UInt8.ofNat k = x at hofp
  have hxk : (x.toNat : Int) = (k : Int) := by rw [← hx]; simp; omega
  have HX := Lib.hid hx
  generalize hy : UInt8.ofNat f = y at hofp HU
  have hyf : (y.toNat : Int) = (f : Int) := by rw [← hy]; simp; omega
  have HY := Lib.hid hy
  have HO := Lib.hid hofp
  clear hofp hx hy
  have hl := ofP_len r
  have HL := Lib.hid hl
  clear hl
  by_cases h3 : 3 < k
  · rw [show unpack (c :: r) = ([], false, 3) from by rw [HU.out, if_pos (.inl h3)]]
    have h3' : (3 : Int) < (k : Int) := by omega
    go_enter Tryz.func45, Tryz.ntmps45
    go_wp2_with fail
    refine (rof_any (c :: r) (by simp; omega) _).mono ?_
    rintro e w1 ⟨rfl, hb⟩
    rw [HO.out]
    go_wp2_with fail
    all_goals go_ret3
    exact ⟨by simp [*], hb⟩
  have h3' : ¬ (3 : Int) < (k : Int) := by omega
  by_cases ho : k % 2 = 1
  · have ho' : ((k : Int) % 2) = 1 := by omega
    by_cases hk2 : k < 2
    · have hk2' : decide ((2 : Int) ≤ (k : Int)) = false := by simp; omega
      rw [show unpack (c :: r) = (y :: ofP r, false, 0) from by
        rw [HU.out, if_neg (by omega), if_pos ho]; simp; omega]
      have HH := Lib.hid ho
      clear ho
      go_enter Tryz.func45, Tryz.ntmps45
      go_wp2_with fail
      refine (rof_any (c :: r) (by simp; omega) _).mono ?_
      rintro e w1 ⟨rfl, hb⟩
      rw [HO.out]
      go_wp2_with fail
      all_goals go_ret3
      exact ⟨by simp [*], hb⟩
    · have hk2' : decide ((2 : Int) ≤ (k : Int)) = true := by simp; omega
      rw [show unpack (c :: r) = (y :: ofP r, true, 0) from by
        rw [HU.out, if_neg (by omega), if_pos ho]; simp; omega]
      have HH := Lib.hid ho
      clear ho
      go_enter Tryz.func45, Tryz.ntmps45
      go_wp2_with fail
      refine (rof_any (c :: r) (by simp; omega) _).mono ?_
      rintro e w1 ⟨rfl, hb⟩
      rw [HO.out]
      go_wp2_with fail
      all_goals go_ret3
      exact ⟨by simp [*], hb⟩
  · have ho0 : k % 2 = 0 := by omega
    have ho' : ((k : Int) % 2) = 0 := by omega
    by_cases hf0 : f = 0
    · subst hf0
      by_cases hk2 : k < 2
      · have hk2' : decide ((2 : Int) ≤ (k : Int)) = false := by simp; omega
        rw [show unpack (c :: r) = (ofP r, false, 0) from by
          rw [HU.out, if_neg (by omega), if_neg ho]; simp; omega]
        clear ho ho0
        go_enter Tryz.func45, Tryz.ntmps45
        go_wp2_with fail
        refine (rof_any (c :: r) (by simp; omega) _).mono ?_
        rintro e w1 ⟨rfl, hb⟩
        rw [HO.out]
        go_wp2_with fail
        all_goals go_ret3
        exact ⟨by simp [*], hb⟩
      · have hk2' : decide ((2 : Int) ≤ (k : Int)) = true := by simp; omega
        rw [show unpack (c :: r) = (ofP r, true, 0) from by
          rw [HU.out, if_neg (by omega), if_neg ho]; simp; omega]
        clear ho ho0
        go_enter Tryz.func45, Tryz.ntmps45
        go_wp2_with fail
        refine (rof_any (c :: r) (by simp; omega) _).mono ?_
        rintro e w1 ⟨rfl, hb⟩
        rw [HO.out]
        go_wp2_with fail
        all_goals go_ret3
        exact ⟨by simp [*], hb⟩
    · rw [show unpack (c :: r) = ([], false, 3) from by rw [HU.out, if_pos (.inr ⟨ho0, hf0⟩)]]
      have hf1 : ((f : Int) == 0) = false := by simpa using hf0
      have hf2 : ((f : Int) != 0) = true := by simpa using hf0
      clear ho ho0
      go_enter Tryz.func45, Tryz.ntmps45
      go_wp2_with fail
      refine (rof_any (c :: r) (by simp; omega) _).mono ?_
      rintro e w1 ⟨rfl, hb⟩
      rw [HO.out]
      go_wp2_with fail
      all_goals go_ret3
      exact ⟨by simp [*], hb⟩

theorem runpack_any (s : Bs) (hs : s.length ≤ 35184372088000) (w : World) :
    Calls Tryz.prog 45 #[.string ⟨List.toArray (s)⟩] w fun e w' => e = .returned (.tuple #[.string ⟨List.toArray ((unpack s).1)⟩, .bool (unpack s).2.1, .int .i64 ((unpack s).2.2)]) ∧ Below w.heap.size w w' := by
  cases s with
  | nil => exact runpack_nil w
  | cons c r => exact runpack_cons c r (by simp at hs; omega) w

end Go.Proofs.YtdddcncjmnekcaaGreatDoor

/- Layer 2, plain: a reader that ends well has eaten just the bytes that would be written. -/
set_option linter.unusedSimpArgs false
set_option linter.unusedVariables false
namespace Go.Proofs.YtdddcncjmnekcaaGreatDoor
namespace Pl

theorem digs_be : ∀ (f : Nat) (l : Bs), l.length ≤ f → (l.headD 1 ≠ 0) → digs f (be l) = l
  | 0, l, h, _ => by
    have : l = [] := List.length_eq_zero_iff.1 (by omega)
    subst this; rfl
  | f + 1, l, h, h0 => by
    rcases List.eq_nil_or_concat l with rfl | ⟨r, c, rfl⟩
    · simp [be, digs]
    · rw [List.concat_eq_append] at *
      have hp : 0 < be (r ++ [c]) := by
        cases r with
        | nil =>
          simp at h0
          have : c.toNat ≠ 0 := fun e => h0 (by rw [← UInt8.toNat_inj]; exact e)
          simp [be]; omega
        | cons a q =>
          simp at h0
          have h1 : a.toNat ≠ 0 := fun e => h0 (by rw [← UInt8.toNat_inj]; exact e)
          rw [List.cons_append, be_cons]
          have : 1 * 256 ^ (q ++ [c]).length ≤ a.toNat * 256 ^ (q ++ [c]).length := Nat.mul_le_mul_right _ (by omega)
          have := Nat.pow_pos (n := (q ++ [c]).length) (show 0 < 256 by omega)
          omega
      rw [digs_step f _ hp, be_snoc]
      have hc := c.toNat_lt
      rw [show (be r * 256 + c.toNat) / 256 = be r from by omega, show (be r * 256 + c.toNat) % 256 = c.toNat from by omega]
      rw [digs_be f r (by simp at h; omega) (by
        cases r with
        | nil => simp
        | cons a q => simpa using h0)]
      simp

theorem take_eats (s : Bs) (h : (take s).2.2 = 0) : s = num (take s).1 ++ (take s).2.1 := by
  cases s with
  | nil => exact absurd h (by decide)
  | cons k r =>
    unfold take at h ⊢
    simp only at h ⊢
    split at h
    · exact absurd h (by decide)
    · rename_i h8
      split at h
      · exact absurd h (by decide)
      · rename_i hr
        split at h
        · exact absurd h (by decide)
        · rename_i hz
          rw [if_neg h8, if_neg hr, if_neg hz]
          have hl : (r.take k.toNat).length = k.toNat := by simp; omega
          have hd : digs 8 (be (r.take k.toNat)) = r.take k.toNat := digs_be 8 _ (by omega) (by
            cases hk : k.toNat with
            | zero => simp
            | succ n =>
              cases r with
              | nil => simp at hr; omega
              | cons a q =>
                simp
                intro e
                exact hz (.inl ⟨by omega, by simp [e]⟩))
          simp only [num, hd, hl]
          rw [List.cons_append, List.take_append_drop]
          simp
theorem tx_eats (s : Bs) (most : Int) (h : (tx s most).2.2 = 0) : s = text (tx s most).1 ++ (tx s most).2.1 ∧ ((tx s most).1.length : Int) ≤ most := by
  unfold tx at h ⊢
  split at h
  · rename_i h1; exact absurd h h1
  · rename_i h1
    split at h
    · exact absurd h (by decide)
    · rename_i h2
      split at h
      · exact absurd h (by decide)
      · rename_i h3
        rw [if_neg h1, if_neg h2, if_neg h3]
        have ht := take_eats s (by simpa using h1)
        have hl : ((take s).2.1.take (take s).1).length = (take s).1 := by simp; omega
        refine ⟨?_, by simp only [hl]; omega⟩
        simp only [text, hl]
        rw [List.append_assoc, List.take_append_drop]
        exact ht
theorem mText_eats (s : Bs) (c most : Int) (h : (mText s c most).2.2 = 0) : c = 0 ∧ s = text (mText s c most).1 ++ (mText s c most).2.1 ∧ ((mText s c most).1.length : Int) ≤ most := by
  unfold mText at h ⊢
  split at h
  · rename_i h1; exact absurd h h1
  · rename_i h1
    split at h
    · rename_i h2; exact absurd h h2
    · rename_i h2
      rw [if_neg h1, if_neg h2]
      have := tx_eats s most (by simpa using h2)
      exact ⟨by simpa using h1, this⟩
theorem mBytes_eats (s : Bs) (c : Int) (n : Nat) (h : (mBytes s c n).2.2 = 0) : c = 0 ∧ s = (mBytes s c n).1 ++ (mBytes s c n).2.1 ∧ (mBytes s c n).1.length = n := by
  unfold mBytes at h ⊢
  split at h
  · rename_i h1; exact absurd h h1
  · rename_i h1
    split at h
    · exact absurd h (by simp)
    · rename_i h2
      split at h
      · exact absurd h (by simp)
      · rename_i h3
        rw [if_neg h1, if_neg h2, if_neg h3]
        refine ⟨by simpa using h1, by simp, by simp; omega⟩

end Pl
end Go.Proofs.YtdddcncjmnekcaaGreatDoor

/- Layers 1, 2, 8, plain: a reader that ends well has eaten just the bytes that would be written. -/
set_option linter.unusedSimpArgs false
set_option linter.unusedVariables false
namespace Go.Proofs.YtdddcncjmnekcaaGreatDoor
namespace Pl

theorem ofP_consE (c : UInt8) (r : Bs) : ofP (c :: r) = UInt8.ofNat (c.toNat / 16) :: UInt8.ofNat (c.toNat % 16) :: ofP r := by simp [ofP]
theorem fit_ofP (r : Bs) : fit (ofP r) = true := by
  induction r with
  | nil => rfl
  | cons c r ih =>
    have hc := c.toNat_lt
    rw [ofP_consE]
    unfold fit at ih ⊢
    simp only [List.all_cons, ih, Bool.and_true, Bool.and_eq_true, decide_eq_true_eq]
    constructor
    · simp; omega
    · simp; omega
theorem joined_ofP (r : Bs) : joined (ofP r) = r := by
  induction r with
  | nil => rfl
  | cons c r ih =>
    have hc := c.toNat_lt
    rw [ofP_consE, joined, ih]
    congr 1
    rw [← UInt8.toNat_inj]
    simp
    omega
theorem pack_unpack (s : Bs) (h : (unpack s).2.2 = 0) : (pack (unpack s).1 (unpack s).2.1).1 = s ∧ fit (unpack s).1 = true := by
  cases s with
  | nil => exact absurd h (by decide)
  | cons c r =>
    have hc := c.toNat_lt
    by_cases h1 : 3 < c.toNat / 16 ∨ (c.toNat / 16 % 2 = 0 ∧ c.toNat % 16 ≠ 0)
    · rw [unpack, if_pos h1] at h
      exact absurd h (by simp)
    · rw [show unpack (c :: r) = ((if c.toNat / 16 % 2 = 1 then UInt8.ofNat (c.toNat % 16) :: ofP r else ofP r), decide (2 ≤ c.toNat / 16), 0) from by rw [unpack, if_neg h1]]
      simp only [not_or, not_and, Nat.not_lt] at h1
      obtain ⟨h3, h4⟩ := h1
      by_cases ho : c.toNat / 16 % 2 = 1
      · simp only [if_pos ho]
        have hf : fit (UInt8.ofNat (c.toNat % 16) :: ofP r) = true := by
          have := fit_ofP r
          unfold fit at this ⊢
          simp only [List.all_cons, this, Bool.and_true, decide_eq_true_eq]
          simp; omega
        refine ⟨?_, hf⟩
        unfold pack
        have hl := ofP_len r
        rw [if_neg (by simp [hf]), if_pos (by simp [hl])]
        simp only [List.headD_cons, List.tail_cons, joined_ofP]
        congr 1
        rw [← UInt8.toNat_inj]
        by_cases h2 : 2 ≤ c.toNat / 16
        · simp [h2]; omega
        · simp [h2]; omega
      · simp only [if_neg ho]
        have hl := ofP_len r
        refine ⟨?_, fit_ofP r⟩
        unfold pack
        rw [if_neg (by simp [fit_ofP]), if_neg (by simp [hl])]
        simp only [joined_ofP]
        congr 1
        have h5 : c.toNat % 16 = 0 := by
          by_cases h6 : c.toNat % 16 = 0
          · exact h6
          · exact absurd (h4 (by omega)) (by simpa using h6)
        rw [← UInt8.toNat_inj]
        by_cases h2 : 2 ≤ c.toNat / 16
        · simp [h2]; omega
        · simp [h2]; omega

/-- A code that is not 0 stays. -/
theorem mBytes_bad (s : Bs) (c n : Int) (h : c ≠ 0) : mBytes s c n = ([], s, c) := by unfold mBytes; rw [if_pos h]
theorem mText_bad (s : Bs) (c most : Int) (h : c ≠ 0) : mText s c most = ([], s, c) := by unfold mText; rw [if_pos h]
theorem rdKids_same (set : Nat) (s : Bs) (c : Int) : ∀ k i, k ≤ i → (rdKids set s c k).1 i = []
  | 0, _, _ => rfl
  | k + 1, i, h => by
    rw [rdKids]
    split
    · simp only [upd]
      rw [if_neg (by omega)]
      exact rdKids_same set s c k i (by omega)
    · exact rdKids_same set s c k i (by omega)
/-- Kids that are read well: the bytes are theirs, and their bits are those asked for. -/
theorem rdKids_eats (set : Nat) (s : Bs) (c : Int) : ∀ k, k ≤ 16 → (rdKids set s c k).2.2 = 0 →
    c = 0 ∧ s = (kidsTo (rdKids set s c k).1 k).flatten ++ (rdKids set s c k).2.1 ∧ ∀ i, i < k → bitv (rdKids set s c k).1 i = set / 2 ^ (15 - i) % 2
  | 0, _, h => ⟨h, by simp [kidsTo, rdKids], fun i hi => by omega⟩
  | k + 1, hk, h => by
    rw [rdKids] at h ⊢
    by_cases hb : set / 2 ^ (15 - k) % 2 = 1
    · rw [if_pos hb] at h ⊢
      have he := mBytes_eats (rdKids set s c k).2.1 (rdKids set s c k).2.2 32 h
      obtain ⟨e1, e2, e3⟩ := he
      obtain ⟨a1, a2, a3⟩ := rdKids_eats set s c k (by omega) e1
      have hsame : kidsTo (upd (rdKids set s c k).1 k (mBytes (rdKids set s c k).2.1 (rdKids set s c k).2.2 32).1) k = kidsTo (rdKids set s c k).1 k := by
        unfold kidsTo
        congr 1
        apply List.map_congr_left
        intro i hi
        have : i < k := by simpa using hi
        simp only [upd]
        rw [if_neg (by omega)]
      refine ⟨a1, ?_, fun i hi => ?_⟩
      · rw [flat_succ, hsame]
        simp only [upd, if_true]
        rw [List.append_assoc]
        have e2' : (rdKids set s c k).2.1 = (mBytes (rdKids set s c k).2.1 (rdKids set s c k).2.2 32).1 ++ (mBytes (rdKids set s c k).2.1 (rdKids set s c k).2.2 32).2.1 := e2
        rw [← e2']
        exact a2
      · by_cases hik : i = k
        · subst hik
          have e3' : (mBytes (rdKids set s c i).2.1 (rdKids set s c i).2.2 32).1.length = 32 := e3
          rw [hb]
          simp only [bitv, upd, if_true]
          rw [if_neg (fun e => by rw [e] at e3'; simp at e3')]
        · rw [← a3 i (by omega)]
          simp [bitv, upd, hik]
    · rw [if_neg hb] at h ⊢
      obtain ⟨a1, a2, a3⟩ := rdKids_eats set s c k (by omega) h
      have h0 := rdKids_same set s c k k (Nat.le_refl _)
      refine ⟨a1, ?_, fun i hi => ?_⟩
      · rw [flat_succ, h0, List.append_nil]
        exact a2
      · by_cases hik : i = k
        · subst hik
          rw [bitv, if_pos h0]; omega
        · exact a3 i (by omega)

theorem numTo_bits (kid : Nat → Bs) (set : Nat) (hs : set < 65536) (h : ∀ i, i < 16 → bitv kid i = set / 2 ^ (15 - i) % 2) : ∀ n, n ≤ 16 → numTo kid n = set / 2 ^ (16 - n)
  | 0, _ => by rw [numTo]; exact (Nat.div_eq_of_lt (by simpa using hs)).symm
  | n + 1, hn => by
    rw [numTo, numTo_bits kid set hs h n (by omega), h n (by omega), show 16 - n = (15 - n) + 1 from by omega, show 16 - (n + 1) = 15 - n from by omega, Nat.pow_succ, ← Nat.div_div_eq_div_mul]
    omega
/-- What a branch's bytes tell is written as those bytes. -/
theorem rdB_eats (a b : UInt8) (r : Bs) (h : (rdB (a.toNat * 256 + b.toNat) r).2.2 = 0) :
    3 :: a :: b :: r = enc 3 [] (rdB (a.toNat * 256 + b.toNat) r).1.val (rdB (a.toNat * 256 + b.toNat) r).1.kid ++ (rdB (a.toNat * 256 + b.toNat) r).2.1 := by
  have ha := a.toNat_lt
  have hb := b.toNat_lt
  generalize hset : a.toNat * 256 + b.toNat = set at *
  obtain ⟨e1, e2, _⟩ := mText_eats (rdKids set r 0 16).2.1 (rdKids set r 0 16).2.2 32 h
  obtain ⟨_, a2, a3⟩ := rdKids_eats set r 0 16 (by omega) e1
  have hn := numTo_bits (rdKids set r 0 16).1 set (by omega) a3 16 (by omega)
  have h8 := numTo_bits (rdKids set r 0 16).1 set (by omega) a3 8 (by omega)
  simp at hn h8
  have hh : UInt8.ofNat (hiK (rdKids set r 0 16).1) = a := by
    rw [← UInt8.toNat_inj]; unfold hiK; rw [h8]; simp; omega
  have hl : UInt8.ofNat (loK (rdKids set r 0 16).1) = b := by
    rw [← UInt8.toNat_inj]; unfold loK; rw [hn]; simp; omega
  show _ = enc 3 [] (mText (rdKids set r 0 16).2.1 (rdKids set r 0 16).2.2 32).1 (rdKids set r 0 16).1 ++ (mText (rdKids set r 0 16).2.1 (rdKids set r 0 16).2.2 32).2.1
  have he : enc 3 [] (mText (rdKids set r 0 16).2.1 (rdKids set r 0 16).2.2 32).1 (rdKids set r 0 16).1 = 3 :: a :: b :: ((kidsTo (rdKids set r 0 16).1 16).flatten ++ text (mText (rdKids set r 0 16).2.1 (rdKids set r 0 16).2.2 32).1) := by
    simp [enc, hh, hl, kidsF]
  rw [he]
  simp only [List.cons_append, List.append_assoc]
  rw [← e2, ← a2]

theorem rdL_eats (r : Bs) (h : (rdL r 0).2.2 = 0) (hu : (unpack (mText r 0 16).1).2.2 = 0) (hl : (unpack (mText r 0 16).1).2.1 = true) :
    1 :: r = enc 1 (rdL r 0).1.path (rdL r 0).1.val noK ++ (rdL r 0).2.1 := by
  obtain ⟨e1, e2, _⟩ := mText_eats (mText r 0 16).2.1 (mText r 0 16).2.2 32 h
  obtain ⟨_, f2, _⟩ := mText_eats r 0 16 e1
  obtain ⟨p1, _⟩ := pack_unpack _ hu
  rw [hl] at p1
  show _ = enc 1 (unpack (mText r 0 16).1).1 (mText (mText r 0 16).2.1 (mText r 0 16).2.2 32).1 noK ++ (mText (mText r 0 16).2.1 (mText r 0 16).2.2 32).2.1
  rw [show enc 1 (unpack (mText r 0 16).1).1 (mText (mText r 0 16).2.1 (mText r 0 16).2.2 32).1 noK = 1 :: (text (mText r 0 16).1 ++ text (mText (mText r 0 16).2.1 (mText r 0 16).2.2 32).1) from by simp [enc, p1]]
  simp only [List.cons_append, List.append_assoc]
  rw [← e2, ← f2]
theorem rdE_eats (r : Bs) (h : (rdE 2 r 0).2.2 = 0) (hu : (unpack (mText r 0 16).1).2.2 = 0) (hl : (unpack (mText r 0 16).1).2.1 = false) :
    2 :: r = enc 2 (rdE 2 r 0).1.path [] (rdE 2 r 0).1.kid ++ (rdE 2 r 0).2.1 := by
  obtain ⟨e1, e2, _⟩ := mBytes_eats (mText r 0 16).2.1 (mText r 0 16).2.2 32 h
  obtain ⟨_, f2, _⟩ := mText_eats r 0 16 e1
  obtain ⟨p1, _⟩ := pack_unpack _ hu
  rw [hl] at p1
  show _ = enc 2 (unpack (mText r 0 16).1).1 [] (upd noK 0 (mBytes (mText r 0 16).2.1 (mText r 0 16).2.2 32).1) ++ (mBytes (mText r 0 16).2.1 (mText r 0 16).2.2 32).2.1
  rw [show enc 2 (unpack (mText r 0 16).1).1 [] (upd noK 0 (mBytes (mText r 0 16).2.1 (mText r 0 16).2.2 32).1) = 2 :: (text (mText r 0 16).1 ++ (mBytes (mText r 0 16).2.1 (mText r 0 16).2.2 32).1) from by simp [enc, p1, upd]]
  simp only [List.cons_append, List.append_assoc]
  have e2' : (mText r 0 16).2.1 = (mBytes (mText r 0 16).2.1 (mText r 0 16).2.2 32).1 ++ (mBytes (mText r 0 16).2.1 (mText r 0 16).2.2 32).2.1 := e2
  rw [← e2', ← f2]

end Pl
end Go.Proofs.YtdddcncjmnekcaaGreatDoor

/- Layer 8, plain: the document's node of bytes is the program's. -/
set_option linter.unusedSimpArgs false
set_option linter.unusedVariables false
namespace Go.Proofs.YtdddcncjmnekcaaGreatDoor
namespace Pl

/-- The document's end: is what was read fine, and written as the bytes? -/
def rfinC (s : Bs) (x : Nd × Bs × Int) : Prop := x.2.2 = 0 ∧ fineR x.1.kind x.1.path x.1.val x.1.kid = true ∧ enc x.1.kind x.1.path x.1.val x.1.kid = s
instance (s : Bs) (x : Nd × Bs × Int) : Decidable (rfinC s x) := by unfold rfinC; infer_instance
def rfin (s : Bs) (x : Nd × Bs × Int) : Nd × Int := if rfinC s x then (x.1, 0) else (ndZ, 80)
def qL (r : Bs) : Nd × Bs × Int :=
  (⟨1, (unpack (mText r 0 100).1).1, (mText (mText r 0 100).2.1 (mText r 0 100).2.2 32).1, noK⟩, (mText (mText r 0 100).2.1 (mText r 0 100).2.2 32).2)
def qE (k : Int) (r : Bs) : Nd × Bs × Int :=
  (⟨k, (unpack (mText r 0 100).1).1, [], upd noK 0 (mBytes (mText r 0 100).2.1 (mText r 0 100).2.2 32).1⟩, (mBytes (mText r 0 100).2.1 (mText r 0 100).2.2 32).2)
def rdec : Bs → Nd × Int
  | [] => (ndZ, 80)
  | k :: r =>
    if k = 3 then match r with
      | a :: b :: r' => rfin (3 :: a :: b :: r') (rdB (a.toNat * 256 + b.toNat) r')
      | _ => (ndZ, 80)
    else if (unpack (mText r 0 100).1).2.2 ≠ 0 then (ndZ, 80)
    else if k = 1 then rfin (1 :: r) (qL r)
    else rfin (k :: r) (qE k.toNat r)

theorem tx_more (r : Bs) (h : (tx r 16).2.2 = 0) : tx r 100 = tx r 16 := by
  unfold tx at h ⊢
  split at h
  · rename_i h1; exact absurd h h1
  · rename_i h1
    rw [if_neg h1, if_neg h1]
    split at h
    · cases h
    · rename_i h2
      rw [if_neg h2, if_neg (by omega)]
theorem mText_more (r : Bs) (h : (mText r 0 16).2.2 = 0) : mText r 0 100 = mText r 0 16 := by
  have h2 : (tx r 16).2.2 = 0 := by
    unfold mText at h
    split at h
    · rename_i h1; exact absurd rfl h1
    · split at h
      · exact h
      · rename_i h1; exact Decidable.not_not.1 h1
  unfold mText
  rw [tx_more r h2]
theorem mEnd_zero {s : Bs} {c : Int} (h : mEnd s c = 0) : c = 0 ∧ s = [] := by
  unfold mEnd at h
  split at h
  · cases h
  · rename_i h1
    subst h
    exact ⟨rfl, by simpa using h1⟩
theorem rfin_dec (s : Bs) (x : Nd × Bs × Int) (hk : ∀ i, 16 ≤ i → x.1.kid i = []) (h : rfinC s x) : dec s = (x.1, 0) := by
  obtain ⟨h1, h2, h3⟩ := h
  rw [fine_chk] at h2
  have h4 := rdN_enc _ _ _ _ h2 []
  rw [List.append_nil, h3] at h4
  have hc : cut x.1.kid 16 = x.1.kid := by
    funext i
    unfold cut
    split
    · rfl
    · exact (hk i (by omega)).symm
  rw [hc] at h4
  rw [dec_rdN, h4]
  unfold decEnd
  rw [if_pos ⟨by simp [mEnd], rfl, h2⟩]
theorem rfin_join (s : Bs) (x y : Nd × Bs × Int) (f : Bool) (hk : ∀ i, 16 ≤ i → x.1.kid i = []) (hd : dec s = decEnd y f)
    (h : mEnd y.2.1 y.2.2 = 0 → f = true → chk y.1.kind y.1.path y.1.val y.1.kid = true → x = y ∧ enc y.1.kind y.1.path y.1.val y.1.kid = s) : rfin s x = dec s := by
  by_cases hc : rfinC s x
  · rw [rfin, if_pos hc, rfin_dec s x hk hc]
  · rw [rfin, if_neg hc, hd, decEnd, if_neg]
    rintro ⟨h1, h2, h3⟩
    obtain ⟨h4, h5⟩ := h h1 h2 h3
    subst h4
    exact hc ⟨(mEnd_zero h1).1, by rw [fine_chk]; exact h3, h5⟩
theorem chk_kind {k : Int} {p v : Bs} {kid : Nat → Bs} (h : chk k p v kid = true) (h1 : k ≠ 1) (h3 : k ≠ 3) : k = 2 := by
  by_cases h2 : k = 2
  · exact h2
  · unfold chk at h
    rw [if_neg h1, if_neg h2, if_neg h3] at h; cases h

theorem rdec_dec (s : Bs) : rdec s = dec s := by
  match s with
  | [] => rfl
  | k :: r =>
    by_cases h3 : k = 3
    · subst h3
      match r with
      | [] => rfl
      | [x] => rfl
      | a :: b :: r' =>
        rw [show rdec (3 :: a :: b :: r') = rfin (3 :: a :: b :: r') (rdB (a.toNat * 256 + b.toNat) r') from by simp [rdec]]
        refine rfin_join _ _ (rdB (a.toNat * 256 + b.toNat) r') true (fun i hi => rdKids_same _ _ _ 16 i hi) (by simp [dec]) ?_
        intro h1 _ h4
        obtain ⟨h5, h6⟩ := mEnd_zero h1
        have h7 := rdB_eats a b r' h5
        rw [h6, List.append_nil] at h7
        exact ⟨rfl, h7.symm⟩
    · by_cases h1 : k = 1
      · subst h1
        have hd : dec (1 :: r) = decEnd (rdL r 0) (decide ((unpack (mText r 0 16).1).2.2 = 0) && (unpack (mText r 0 16).1).2.1) := by simp [dec]
        have hq : (unpack (mText r 0 100).1).2.2 = 0 → rdec (1 :: r) = rfin (1 :: r) (qL r) := fun h => by simp [rdec, h]
        have hn : (unpack (mText r 0 100).1).2.2 ≠ 0 → rdec (1 :: r) = (ndZ, 80) := fun h => by simp [rdec, h]
        by_cases hu : (unpack (mText r 0 100).1).2.2 = 0
        · rw [hq hu]
          refine rfin_join _ _ _ _ (fun i _ => rfl) hd ?_
          intro g1 g2 g3
          obtain ⟨h5, h6⟩ := mEnd_zero g1
          obtain ⟨e1, _, _⟩ := mText_eats (mText r 0 16).2.1 (mText r 0 16).2.2 32 h5
          simp at g2
          have h7 := rdL_eats r h5 g2.1 g2.2
          rw [h6, List.append_nil] at h7
          have hm := mText_more r e1
          exact ⟨by unfold qL rdL; rw [hm, e1], h7.symm⟩
        · rw [hn hu, hd, decEnd, if_neg]
          rintro ⟨g1, g2, g3⟩
          obtain ⟨h5, h6⟩ := mEnd_zero g1
          obtain ⟨e1, _, _⟩ := mText_eats (mText r 0 16).2.1 (mText r 0 16).2.2 32 h5
          rw [mText_more r e1] at hu
          simp at g2
          exact hu g2.1
      · have hd : dec (k :: r) = decEnd (rdE k.toNat r 0) (decide ((unpack (mText r 0 16).1).2.2 = 0) && !(unpack (mText r 0 16).1).2.1) := by simp [dec, h1, h3]
        have hq : (unpack (mText r 0 100).1).2.2 = 0 → rdec (k :: r) = rfin (k :: r) (qE k.toNat r) := fun h => by simp [rdec, h, h1, h3]
        have hn : (unpack (mText r 0 100).1).2.2 ≠ 0 → rdec (k :: r) = (ndZ, 80) := fun h => by simp [rdec, h, h3]
        have hk1 : (k.toNat : Int) ≠ 1 := fun e => h1 (by rw [← UInt8.toNat_inj]; simp; omega)
        have hk3 : (k.toNat : Int) ≠ 3 := fun e => h3 (by rw [← UInt8.toNat_inj]; simp; omega)
        by_cases hu : (unpack (mText r 0 100).1).2.2 = 0
        · rw [hq hu]
          refine rfin_join _ _ _ _ (fun i hi => by simp only [qE, upd]; rw [if_neg (by omega)]; rfl) hd ?_
          intro g1 g2 g3
          have hk2 : (k.toNat : Int) = 2 := chk_kind g3 hk1 hk3
          have hk : k = 2 := by rw [← UInt8.toNat_inj]; simp; omega
          subst hk
          obtain ⟨h5, h6⟩ := mEnd_zero g1
          obtain ⟨e1, _, _⟩ := mBytes_eats (mText r 0 16).2.1 (mText r 0 16).2.2 32 h5
          simp at g2
          have h7 := rdE_eats r h5 g2.1 g2.2
          have h6' : (rdE 2 r 0).2.1 = [] := h6
          rw [h6', List.append_nil] at h7
          have hm := mText_more r e1
          exact ⟨by unfold qE rdE; rw [hm, e1], h7.symm⟩
        · rw [hn hu, hd, decEnd, if_neg]
          rintro ⟨g1, g2, g3⟩
          obtain ⟨h5, h6⟩ := mEnd_zero g1
          obtain ⟨e1, _, _⟩ := mBytes_eats (mText r 0 16).2.1 (mText r 0 16).2.2 32 h5
          rw [mText_more r e1] at hu
          simp at g2
          exact hu g2.1

end Pl
end Go.Proofs.YtdddcncjmnekcaaGreatDoor
