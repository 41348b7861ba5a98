/- Back, Fine, WritA, ShaP. -/
import Derived.Test.YthkpmlfaddlieaaGreatDoorMw3
set_option linter.unnecessarySimpa false
set_option linter.unusedSimpArgs false
set_option linter.unusedVariables false
set_option maxRecDepth 100000
set_option maxHeartbeats 32000000
namespace Go.Proofs.YthkpmlfaddlieaaGreatDoor
namespace Pl
theorem digs_len : ∀ f n, (digs f n).length ≤ f
 | 0, n => by simp [digs]
 | f + 1, n => by
  unfold digs
  split
  ·simp
  ·have := digs_len f (n / 256); simp; omega
theorem be_digs : ∀ f n, n < 256 ^ f → be (digs f n) = n
 | 0, n, h => by simp at h; subst h; simp [digs, be]
 | f + 1, n, h => by
  by_cases h0 : n = 0
  ·subst h0; simp [digs, be]
  ·rw [digs_step f n (by omega), be_snoc, be_digs f (n / 256) (by rw [Nat.pow_succ] at h; omega)]
   simp; omega
theorem digs_head : ∀ f n, 0 < n → n < 256 ^ f → (digs f n).headD 0 ≠ 0
 | 0, n, h, h2 => by simp at h2; omega
 | f + 1, n, h, h2 => by
  rw [digs_step f n h]
  by_cases h0 : n / 256 = 0
  ·rw [h0, digs_zero]
   simp only [List.nil_append, List.headD_cons]
   intro e
   have := congrArg UInt8.toNat e
   simp at this
   omega
  ·have ih := digs_head f (n / 256) (by omega) (by rw [Nat.pow_succ] at h2; omega)
   cases hd : digs f (n / 256) with
   | nil => rw [hd] at ih; exact absurd rfl ih
   | cons a r => rw [hd] at ih; simpa using ih
theorem take_num (n : Nat) (h : n < 9223372036854775808) (r : Bs) : take (num n ++ r) = (n, r, 0) := by
 have h1 := digs_len 8 n
 have h2 := be_digs 8 n (by omega)
 have hk : (UInt8.ofNat (digs 8 n).length).toNat = (digs 8 n).length := by simp; omega
 show take (UInt8.ofNat (digs 8 n).length :: (digs 8 n ++ r)) = _
 unfold take
 simp only [hk]
 rw [if_neg (by omega), if_neg (by simp)]
 have ht : (digs 8 n ++ r).take (digs 8 n).length = digs 8 n := by simp
 have hd : (digs 8 n ++ r).drop (digs 8 n).length = r := by simp
 rw [ht, hd, h2, if_neg]
 rintro (⟨h3, h4⟩ | ⟨h3, h4⟩)
 ·have hn : 0 < n := by
   rcases Nat.eq_zero_or_pos n with h0 | h0
   ·subst h0; rw [digs_zero] at h3; simp at h3
   ·exact h0
  have := digs_head 8 n hn (by omega)
  cases hd : digs 8 n with
  | nil => rw [hd] at h3; simp at h3
  | cons a q => rw [hd] at this h4; simp at this h4; exact this h4
 ·cases hd : digs 8 n with
  | nil => rw [hd] at h3; simp at h3
  | cons a q =>
   rw [hd] at h2 h4 h3
   rw [be_cons] at h2
   simp at h3 h4
   rw [h3] at h2
   omega
theorem tx_text (t : Bs) (most : Int) (h : t.length < 9223372036854775808) (hm : (t.length : Int) ≤ most) (r : Bs) : tx (text t ++ r) most = (t, r, 0) := by
 unfold tx text
 rw [List.append_assoc, take_num _ h]
 simp only [ne_eq, not_true_eq_false, if_false]
 rw [if_neg (by omega), if_neg (by simp)]
 simp
theorem mText_text (t : Bs) (most : Int) (h : t.length < 9223372036854775808) (hm : (t.length : Int) ≤ most) (r : Bs) : mText (text t ++ r) 0 most = (t, r, 0) := by
 unfold mText
 rw [tx_text t most h hm]
 simp
theorem mBytes_app (t : Bs) (n : Nat) (h : t.length = n) (r : Bs) : mBytes (t ++ r) 0 n = (t, r, 0) := by
 subst h
 unfold mBytes
 rw [if_neg (by simp), if_neg (by omega), if_neg (by simp; omega)]
 simp
theorem ofP_joined (p : Bs) (hf : fit p = true) (he : p.length % 2 = 0) : ofP (joined p) = p := by
 induction p using joined.induct with
 | case1 a b r ih =>
  have ha := fit_at _ hf 0 (by simp)
  have hb := fit_at _ hf 1 (by simp)
  simp at ha hb
  have hr : fit r = true := by
   unfold fit at hf ⊢
   simp at hf ⊢
   exact hf.2.2
  have h1 : (UInt8.ofNat (a.toNat * 16 + b.toNat)).toNat = a.toNat * 16 + b.toNat := by simp; omega
  show ofP (UInt8.ofNat (a.toNat * 16 + b.toNat) :: joined r) = _
  have : ∀ x : UInt8, ofP (x :: joined r) = [UInt8.ofNat (x.toNat / 16), UInt8.ofNat (x.toNat % 16)] ++ ofP (joined r) := fun x => by simp [ofP]
  rw [this, h1, ih hr (by simp at he; omega), show (a.toNat * 16 + b.toNat) / 16 = a.toNat from by omega, show (a.toNat * 16 + b.toNat) % 16 = b.toNat from by omega]
  simp
 | case2 s h =>
  match s, h, he with
  | [], _, _ => simp [joined, ofP]
  | [x], _, he => simp at he
  | a :: b :: r, h, _ => exact absurd rfl (h a b r)
theorem unpack_pack (p : Bs) (leaf : Bool) (hf : fit p = true) : unpack (pack p leaf).1 = (p, leaf, 0) := by
 unfold pack
 rw [if_neg (by simp [hf])]
 by_cases ho : p.length % 2 = 1
 ·rw [if_pos ho]
  cases p with
  | nil => simp at ho
  | cons c r =>
   have hc := fit_at _ hf 0 (by simp)
   simp at hc
   have hr : fit r = true := by
    unfold fit at hf ⊢
    simp at hf ⊢
    exact hf.2
   have hj := ofP_joined r hr (by simp at ho; omega)
   simp only [List.headD_cons, List.tail_cons]
   cases leaf
   ·have h1 : (UInt8.ofNat (16 + c.toNat)).toNat = 16 + c.toNat := by simp; omega
    have h0 : (if (false : Bool) = true then 32 else 0) + 16 + c.toNat = 16 + c.toNat := by simp
    rw [h0]
    have h2 : (16 + c.toNat) / 16 = 1 := by omega
    have h3 : (16 + c.toNat) % 16 = c.toNat := by omega
    simp only [unpack, h1, h2, h3, hj]
    simp
   ·have h1 : (UInt8.ofNat (48 + c.toNat)).toNat = 48 + c.toNat := by simp; omega
    show unpack (UInt8.ofNat (48 + c.toNat) :: joined r) = _
    have h2 : (48 + c.toNat) / 16 = 3 := by omega
    have h3 : (48 + c.toNat) % 16 = c.toNat := by omega
    simp only [unpack, h1, h2, h3, hj]
    simp
 ·rw [if_neg ho]
  have hj := ofP_joined p hf (by omega)
  cases leaf
  ·simp [unpack, hj]
  ·simp [unpack, hj]
theorem joined_half (s : Bs) : (joined s).length ≤ s.length / 2 := by
 induction s using joined.induct with
 | case1 a b r ih => simp [joined] at ih ⊢; omega
 | case2 s h =>
  rw [joined.eq_def]
  split
  ·rename_i a b r; exact absurd rfl (h a b r)
  ·simp
theorem pack_half (p : Bs) (leaf : Bool) : (pack p leaf).1.length ≤ p.length / 2 + 1 := by
 unfold pack
 have h1 := joined_half p
 have h2 := joined_half p.tail
 have h3 : p.tail.length ≤ p.length := by simp
 split
 ·simp
 ·split
  ·simp at *; omega
  ·simp; omega
theorem bit_of (kid : Nat → Bs) (k : Nat) (hk : k < 16) : numTo kid 16 / 2 ^ (15 - k) % 2 = bitv kid k := by
 have h := numTo_add kid (k + 1) (15 - k)
 have h2 := numTo_lt (fun i => kid (k + 1 + i)) (15 - k)
 rw [show k + 1 + (15 - k) = 16 from by omega] at h
 rw [h, Nat.mul_comm, Nat.mul_add_div (Nat.two_pow_pos _), Nat.div_eq_of_lt h2, Nat.add_zero, numTo]
 have : bitv kid k ≤ 1 := by unfold bitv; split <;> omega
 omega
def kidsFrom (kid : Nat → Bs) : Nat → List Bs
 | 0 => []
 | n + 1 => (if kid (15 - n) = [] then [] else [kid (15 - n)]) ++ kidsFrom kid n
theorem kidsFrom_all (kid : Nat → Bs) : ∀ n, n ≤ 16 → kidsTo kid (16 - n) ++ kidsFrom kid n = kidsF kid
 | 0, _ => by simp [kidsFrom, kidsF]
 | n + 1, h => by
  rw [← kidsFrom_all kid n (by omega), kidsFrom, ← List.append_assoc, ← show 16 - (n + 1) = 15 - n from by omega, ← kidsTo_succ, show 16 - (n + 1) + 1 = 16 - n from by omega]
def cut (kid : Nat → Bs) (k : Nat) : Nat → Bs := fun i => if i < k then kid i else []
theorem rdKids_flat (kid : Nat → Bs) (ha : all32 (kidsF kid) = true) (r : Bs) : ∀ k, k ≤ 16 → rdKids (numTo kid 16) ((kidsF kid).flatten ++ r) 0 k = (cut kid k, (kidsFrom kid (16 - k)).flatten ++ r, 0)
 | 0, _ => by
  have h := kidsFrom_all kid 16 (by omega)
  simp [kidsTo] at h
  rw [rdKids, h]
  congr 1
 | k + 1, hk => by
  have ih := rdKids_flat kid ha r k (by omega)
  have hb := bit_of kid k (by omega)
  have hf : kidsFrom kid (16 - k) = (if kid k = [] then [] else [kid k]) ++ kidsFrom kid (16 - (k + 1)) := by
   rw [show 16 - k = (15 - k) + 1 from by omega, kidsFrom, show 15 - (15 - k) = k from by omega, show 16 - (k + 1) = 15 - k from by omega]
  rw [rdKids, ih, hb]
  by_cases he : kid k = []
  ·rw [bitv, if_pos he, if_neg (by omega), hf, if_pos he]
   congr 1
   funext i
   unfold cut
   by_cases h1 : i < k
   ·rw [if_pos h1, if_pos (by omega)]
   ·by_cases h2 : i = k
    ·subst h2; rw [if_neg h1, if_pos (by omega), he]
    ·rw [if_neg h1, if_neg (by omega)]
  ·have h32 : (kid k).length = 32 := by
    have h := kidsFrom_all kid (16 - k) (by omega)
    rw [hf, if_neg he] at h
    have hm : kid k ∈ kidsF kid := by rw [← h]; simp
    have := List.all_eq_true.1 ha (kid k) hm
    simpa using this
   rw [bitv, if_neg he, if_pos rfl, hf, if_neg he]
   simp only [List.flatten_append, List.flatten_cons, List.flatten_nil, List.append_nil, List.append_assoc]
   have hmb : mBytes (kid k ++ ((kidsFrom kid (16 - (k + 1))).flatten ++ r)) 0 32 = (kid k, (kidsFrom kid (16 - (k + 1))).flatten ++ r, 0) := mBytes_app (kid k) 32 h32 _
   rw [hmb]
   congr 1
   funext i
   simp only [cut, upd]
   by_cases h1 : i = k
   ·subst h1; rw [if_pos rfl, if_pos (by omega)]
   ·rw [if_neg h1]
    by_cases h2 : i < k
    ·rw [if_pos h2, if_pos (by omega)]
    ·rw [if_neg h2, if_neg (by omega)]
def rdN : Bs → (Nd × Bs × Int) × Bool
 | [] => ((ndZ, [], 20), false)
 | k :: r =>
  if k = 3 then match r with
   | a :: b :: r' => (rdB (a.toNat * 256 + b.toNat) r', true)
   | _ => ((ndZ, [], 20), false)
  else if k = 1 then (rdL r 0, decide ((unpack (mText r 0 16).1).2.2 = 0) && (unpack (mText r 0 16).1).2.1)
  else (rdE k.toNat r 0, decide ((unpack (mText r 0 16).1).2.2 = 0) && !(unpack (mText r 0 16).1).2.1)
theorem kidL_eq {a b : Nat → Bs} (h : kidL a = kidL b) (i : Nat) (hi : i < 16) : a i = b i := by
 have := congrArg (fun l => l[i]?) h
 simpa [kidL, hi] using this
theorem cut_none {kid : Nat → Bs} (h : noKids kid = true) : cut kid 16 = noK := by
 funext i
 unfold cut
 by_cases hi : i < 16
 ·rw [if_pos hi]
  have h1 : kidL kid = kidL noK := by
   simp only [noKids, sameL, decide_eq_true_eq] at h
   rw [h]; rfl
  exact kidL_eq h1 i hi
 ·rw [if_neg hi]; rfl
theorem cut_one {kid : Nat → Bs} (h : oneKidX kid (kid 0) = true) : cut kid 16 = upd noK 0 (kid 0) := by
 have h1 : kidL kid = kidL (upd noK 0 (kid 0)) := by
  simp only [oneKidX, sameL, decide_eq_true_eq] at h
  rw [h]; rfl
 funext i
 unfold cut
 by_cases hi : i < 16
 ·rw [if_pos hi]; exact kidL_eq h1 i hi
 ·rw [if_neg hi]; unfold upd; rw [if_neg (by omega)]; rfl
theorem rdN_enc (kind : Int) (path val : Bs) (kid : Nat → Bs) (hc : chk kind path val kid = true) (more : Bs) :
  rdN (enc kind path val kid ++ more) = ((⟨kind, path, val, cut kid 16⟩, more, 0), true) := by
 unfold chk at hc
 by_cases k1 : kind = 1
 ·subst k1
  simp [pathOk] at hc
  obtain ⟨⟨⟨hk, ⟨hf, hp⟩⟩, hv⟩, hv2⟩ := hc
  have hu := unpack_pack path true hf
  have hpl : (pack path true).1.length ≤ 16 := by
   have := pack_half path true
   omega
  have e1 : mText (text (pack path true).1 ++ (text val ++ more)) 0 16 = ((pack path true).1, text val ++ more, 0) := mText_text _ _ (by omega) (by omega) _
  have e2 : mText (text val ++ more) 0 32 = (val, more, 0) := mText_text _ _ (by omega) (by omega) _
  rw [show enc 1 path val kid ++ more = 1 :: (text (pack path true).1 ++ (text val ++ more)) from by simp [enc]]
  simp only [rdN, rdL, e1, e2, hu, cut_none hk]
  simp
 ·by_cases k2 : kind = 2
  ·subst k2
   simp [pathOk, all32] at hc
   obtain ⟨⟨⟨hk, h32⟩, ⟨⟨hf, hp1⟩, hp⟩⟩, hv⟩ := hc
   subst hv
   have hu := unpack_pack path false hf
   have hpl : (pack path false).1.length ≤ 16 := by
    have := pack_half path false
    omega
   have e1 : mText (text (pack path false).1 ++ (kid 0 ++ more)) 0 16 = ((pack path false).1, kid 0 ++ more, 0) := mText_text _ _ (by omega) (by omega) _
   have e2 : mBytes (kid 0 ++ more) 0 32 = (kid 0, more, 0) := mBytes_app (kid 0) 32 h32 _
   rw [show enc 2 path [] kid ++ more = 2 :: (text (pack path false).1 ++ (kid 0 ++ more)) from by simp [enc]]
   simp only [rdN, rdE, e1, e2, hu, cut_one hk]
   simp
  ·by_cases k3 : kind = 3
   ·subst k3
    simp at hc
    obtain ⟨⟨⟨hp, ha⟩, hm⟩, hv⟩ := hc
    subst hp
    have h16 := numTo_16 kid
    have hh := hiK_lt kid
    have hl := loK_lt kid
    have h1 : (UInt8.ofNat (hiK kid)).toNat * 256 + (UInt8.ofNat (loK kid)).toNat = numTo kid 16 := by simp; omega
    have e1 := rdKids_flat kid ha (text val ++ more) 16 (by omega)
    have e2 : mText (text val ++ more) 0 32 = (val, more, 0) := mText_text _ _ (by omega) (by omega) _
    rw [show enc 3 [] val kid ++ more = 3 :: UInt8.ofNat (hiK kid) :: UInt8.ofNat (loK kid) :: ((kidsF kid).flatten ++ (text val ++ more)) from by simp [enc]]
    simp only [rdN, if_true, rdB, h1, e1]
    simp [kidsFrom, e2]
   ·rw [if_neg k1, if_neg k2, if_neg k3] at hc
    exact absurd hc (by simp)
def sameN (k : Int) (p v : Bs) (kid : Nat → Bs) (k2 : Int) (p2 v2 : Bs) (kid2 : Nat → Bs) : Prop := k = k2 ∧ p = p2 ∧ v = v2 ∧ ∀ i, i < 16 → kid i = kid2 i
theorem cut_at {kid kid2 : Nat → Bs} (h : cut kid 16 = cut kid2 16) (i : Nat) (hi : i < 16) : kid i = kid2 i := by
 have := congrFun h i
 simpa [cut, hi] using this
theorem enc_begins {k k2 : Int} {p v p2 v2 : Bs} {kid kid2 : Nat → Bs} (h : chk k p v kid = true) (h2 : chk k2 p2 v2 kid2 = true) (more : Bs) (he : enc k2 p2 v2 kid2 = enc k p v kid ++ more) :
  more = [] ∧ sameN k p v kid k2 p2 v2 kid2 := by
 have e1 := rdN_enc k p v kid h more
 have e2 := rdN_enc k2 p2 v2 kid2 h2 []
 rw [List.append_nil, he, e1] at e2
 simp only [Prod.mk.injEq, Nd.mk.injEq, and_true] at e2
 obtain ⟨⟨a1, a2, a3, a4⟩, a5⟩ := e2
 exact ⟨a5, a1, a2, a3, cut_at a4⟩
theorem kidL_of {kid kid2 : Nat → Bs} (h : ∀ i, i < 16 → kid i = kid2 i) : kidL kid = kidL kid2 := by
 unfold kidL
 apply List.map_congr_left
 intro i hi
 exact h i (by simpa using hi)
theorem kidsTo_of {kid kid2 : Nat → Bs} (h : ∀ i, i < 16 → kid i = kid2 i) : ∀ n, n ≤ 16 → kidsTo kid n = kidsTo kid2 n
 | 0, _ => rfl
 | n + 1, hn => by rw [kidsTo_succ, kidsTo_succ, kidsTo_of h n (by omega), h n (by omega)]
theorem numTo_of {kid kid2 : Nat → Bs} (h : ∀ i, i < 16 → kid i = kid2 i) : ∀ n, n ≤ 16 → numTo kid n = numTo kid2 n
 | 0, _ => rfl
 | n + 1, hn => by rw [numTo, numTo, numTo_of h n (by omega), bitv, bitv, h n (by omega)]
theorem enc_of {k k2 : Int} {p v p2 v2 : Bs} {kid kid2 : Nat → Bs} (h : sameN k p v kid k2 p2 v2 kid2) : enc k p v kid = enc k2 p2 v2 kid2 := by
 obtain ⟨rfl, rfl, rfl, h⟩ := h
 have h1 : kidsF kid = kidsF kid2 := kidsTo_of h 16 (by omega)
 have h2 : hiK kid = hiK kid2 := numTo_of h 8 (by omega)
 have h3 : loK kid = loK kid2 := by unfold loK; rw [numTo_of h 16 (by omega)]
 have h4 := h 0 (by omega)
 unfold enc
 rw [h1, h2, h3, h4]
theorem unlike {k k2 : Int} {p v p2 v2 : Bs} {kid kid2 : Nat → Bs} (h : chk k p v kid = true) (h2 : chk k2 p2 v2 kid2 = true) :
  (enc k p v kid = enc k2 p2 v2 kid2 ↔ sameN k p v kid k2 p2 v2 kid2) ∧ (((enc k p v kid).length ≤ (enc k2 p2 v2 kid2).length ∧ (enc k2 p2 v2 kid2).take (enc k p v kid).length = enc k p v kid) ↔ sameN k p v kid k2 p2 v2 kid2) := by
 refine ⟨⟨fun he => (enc_begins h h2 [] (by simp [he])).2, enc_of⟩, ⟨fun ⟨hl, ht⟩ => ?_, fun hs => ?_⟩⟩
 ·refine (enc_begins h h2 ((enc k2 p2 v2 kid2).drop (enc k p v kid).length) ?_).2
  have := List.take_append_drop (enc k p v kid).length (enc k2 p2 v2 kid2)
  rw [ht] at this
  exact this.symm
 ·rw [enc_of hs]; simp
end Pl
end Go.Proofs.YthkpmlfaddlieaaGreatDoor
namespace Go.Proofs.YthkpmlfaddlieaaGreatDoor
namespace Pl
theorem kidsTo_nil {kid : Nat → Bs} : ∀ n, (∀ i, i < n → kid i = []) → kidsTo kid n = []
 | 0, _ => rfl
 | n + 1, h => by rw [kidsTo_succ, kidsTo_nil n (fun i hi => h i (by omega)), h n (by omega)]; rfl
theorem kidsTo_mono (kid : Nat → Bs) (n : Nat) : (kidsTo kid n).length ≤ (kidsTo kid (n + 1)).length := by
 rw [kidsTo_succ]; simp
theorem kidsTo_le (kid : Nat → Bs) {n m : Nat} (h : n ≤ m) : (kidsTo kid n).length ≤ (kidsTo kid m).length := by
 induction h with
 | refl => exact Nat.le_refl _
 | step _ ih => exact Nat.le_trans ih (kidsTo_mono kid _)
theorem none_iff (kid : Nat → Bs) : noKids kid = true ↔ (kidsF kid).length = 0 := by
 constructor
 ·intro h
  have h1 : kidL kid = kidL noK := by
   simp only [noKids, sameL, decide_eq_true_eq] at h
   rw [h]; rfl
  unfold kidsF
  rw [kidsTo_nil 16 (fun i hi => kidL_eq h1 i hi)]
  rfl
 ·intro h
  have h1 : ∀ i, i < 16 → kid i = [] := fun i hi => by
   by_cases he : kid i = []
   ·exact he
   ·exfalso
    have := kidsTo_le kid (show i + 1 ≤ 16 by omega)
    rw [kidsTo_succ, if_neg he] at this
    simp [kidsF] at h this
    rw [h] at this
    simp at this
  have h2 : kidL kid = kidL noK := kidL_of (fun i hi => h1 i hi)
  simp only [noKids, sameL, decide_eq_true_eq]
  rw [h2]; rfl
theorem kidsTo_one {kid : Nat → Bs} (h0 : kid 0 ≠ []) : ∀ n, n ≤ 15 → (∀ i, 1 ≤ i → i < n + 1 → kid i = []) → kidsTo kid (n + 1) = [kid 0]
 | 0, _, _ => by rw [kidsTo_succ, if_neg h0]; rfl
 | n + 1, hn, h => by rw [kidsTo_succ, kidsTo_one h0 n (by omega) (fun i h1 h2 => h i h1 (by omega)), h (n + 1) (by omega) (by omega)]; rfl
theorem one_rest {kid : Nat → Bs} (h0 : kid 0 ≠ []) (h : (kidsF kid).length = 1) (i : Nat) (h1 : 1 ≤ i) (hi : i < 16) : kid i = [] := by
 by_cases he : kid i = []
 ·exact he
 ·exfalso
  have a := kidsTo_le kid (show i + 1 ≤ 16 by omega)
  have b := kidsTo_le kid (show 0 + 1 ≤ i by omega)
  rw [kidsTo_succ, if_neg h0] at b
  rw [kidsTo_succ, if_neg he] at a
  have h' : (kidsTo kid 16).length = 1 := h
  simp at a b
  omega
theorem one_iff (kid : Nat → Bs) : (oneKidX kid (kid 0) && all32 [kid 0]) = true ↔ all32 (kidsF kid) = true ∧ (kidsF kid).length = 1 ∧ kid 0 ≠ [] := by
 rw [Bool.and_eq_true]
 constructor
 ·rintro ⟨h, h32⟩
  have h1 : kidL kid = kidL (upd noK 0 (kid 0)) := by
   simp only [oneKidX, sameL, decide_eq_true_eq] at h
   rw [h]; rfl
  have h0 : kid 0 ≠ [] := fun e => by rw [e] at h32; exact absurd h32 (by decide)
  have hf : kidsF kid = [kid 0] := kidsTo_one h0 15 (by omega) (fun i h2 h3 => by
   have := kidL_eq h1 i (by omega)
   rw [this]; unfold upd; rw [if_neg (by omega)]; rfl)
  rw [hf]
  exact ⟨h32, rfl, h0⟩
 ·rintro ⟨h32, hl, h0⟩
  have hr := one_rest h0 hl
  have hf : kidsF kid = [kid 0] := kidsTo_one h0 15 (by omega) (fun i h2 h3 => hr i h2 (by omega))
  rw [hf] at h32
  refine ⟨?_, h32⟩
  have h2 : kidL kid = kidL (upd noK 0 (kid 0)) := kidL_of (fun i hi => by
   unfold upd
   by_cases h3 : i = 0
   ·subst h3; rw [if_pos rfl]
   ·rw [if_neg h3]; exact hr i (by omega) hi)
  simp only [oneKidX, sameL, decide_eq_true_eq]
  rw [h2]; rfl
theorem all32_nil {l : List Bs} (h : l.length = 0) : all32 l = true := by
 rw [List.length_eq_zero_iff.1 h]; rfl
theorem fine_chk (kind : Int) (path val : Bs) (kid : Nat → Bs) : fineR kind path val kid = chk kind path val kid := by
 rw [Bool.eq_iff_iff]
 unfold fineR chk
 by_cases k1 : kind = 1
 ·simp only [if_pos k1]
  have hn := none_iff kid
  constructor
  ·intro h
   split at h
   ·cases h
   ·split at h
    ·cases h
    ·rename_i ha hb
     simp at h hb
     simp [pathOk, hn.2 (by simp [h.1])]
     refine ⟨⟨⟨?_, ?_⟩, h.2⟩, ?_⟩
     ·cases hf : fit path <;> simp [hf] at hb ⊢
     ·omega
     ·omega
  ·intro h
   simp [pathOk] at h
   have hl := hn.1 h.1.1.1
   rw [if_neg (by simp [all32_nil hl]), if_neg (by simp [h.1.1.2.1]; omega)]
   simp [hl, h.1.2]
 ·by_cases k2 : kind = 2
  ·simp only [if_neg k1, if_pos k2]
   have ho := one_iff kid
   constructor
   ·intro h
    split at h
    ·cases h
    ·split at h
     ·cases h
     ·rename_i ha hb
      simp at h hb ha
      have ho2 := ho.2 ⟨ha, h.1.1.1, h.1.1.2⟩
      rw [Bool.and_eq_true] at ho2
      simp [pathOk, ho2.1, ho2.2, h.2]
      refine ⟨⟨?_, by have := h.1.2; omega⟩, ?_⟩
      ·cases hf : fit path <;> simp [hf] at hb ⊢
      ·omega
   ·intro h
    simp only [pathOk, Bool.and_eq_true] at h
    obtain ⟨⟨⟨h1, h2⟩, ⟨⟨h3, h4⟩, h5⟩⟩, h6⟩ := h
    obtain ⟨q1, q2, q3⟩ := ho.1 (by rw [h1, h2]; rfl)
    have hv : val = [] := by simpa using h6
    subst hv
    have h4' : 1 ≤ path.length := by
     have h4i : (1 : Int) ≤ (path.length : Int) := by simpa using h4
     omega
    have h5' : path.length ≤ 16 := by simpa using h5
    rw [if_neg (by simp [q1]), if_neg (by simp [h3]; omega)]
    simp [q2, q3, h4']
  ·by_cases k3 : kind = 3
   ·simp only [if_neg k1, if_neg k2, if_pos k3]
    constructor
    ·intro h
     split at h
     ·cases h
     ·split at h
      ·cases h
      ·rename_i ha hb
       have ha' : all32 (kidsF kid) = true := by simpa using ha
       simp only [not_or] at hb
       obtain ⟨_, _, hv⟩ := hb
       simp at h
       obtain ⟨hp, h⟩ := h
       subst hp
       simp only [ha', Bool.and_eq_true, decide_eq_true_eq, List.isEmpty_nil]
       refine ⟨⟨⟨by simp, by simp⟩, ?_⟩, by omega⟩
       rcases h with h | ⟨h, h2⟩
       ·omega
       ·simp [h, h2]
    ·intro h
     simp only [Bool.and_eq_true, decide_eq_true_eq] at h
     obtain ⟨⟨⟨h1, h2⟩, h3⟩, h4⟩ := h
     have hp : path = [] := by simpa using h1
     subst hp
     rw [if_neg (by simp [h2]), if_neg (by simp [fit]; omega)]
     by_cases hv : val.isEmpty = true
     ·rw [if_pos hv] at h3
      simp; omega
     ·rw [if_neg hv] at h3
      simp at hv
      simp [hv]; omega
   ·simp only [if_neg k1, if_neg k2, if_neg k3]
    constructor
    ·intro h
     split at h
     ·cases h
     ·split at h <;> cases h
    ·intro h; cases h
end Pl
end Go.Proofs.YthkpmlfaddlieaaGreatDoor
namespace Go.Proofs.YthkpmlfaddlieaaGreatDoor
open Go.RowKit Pl
theorem writ_any (kind : Int) (path val : Bs) (kid : Nat → Bs) (hf : fineR kind path val kid = true) (w : World) :
  Calls Tryz.prog 170 #[.agg (nd kind path val kid).toArray] w fun e w' => e = .returned (.string ⟨List.toArray (enc kind path val kid)⟩) ∧ Below w.heap.size w w' := by
 have hc : chk kind path val kid = true := by rw [← fine_chk]; exact hf
 unfold fineR at hf
 split at hf
 ·cases hf
 ·rename_i ha
  have ha' : all32 (kidsF kid) = true := by simpa using ha
  split at hf
  ·cases hf
  ·rename_i hb
   simp only [not_or] at hb
   obtain ⟨_, hp, hv⟩ := hb
   by_cases k1 : kind = 1
   ·subst k1
    rw [show enc 1 path val kid = 1 :: (text (pack path true).1 ++ text val) from by simp [enc]]
    exact writ_leaf path val kid (by omega) (by omega) w
   ·by_cases k2 : kind = 2
    ·subst k2
     have h0 : (kid 0).length ≤ 32 := by
      simp [chk, all32] at hc
      omega
     rw [show enc 2 path val kid = 2 :: (text (pack path false).1 ++ kid 0) from by simp [enc]]
     exact writ_ext path val kid (by omega) h0 w
    ·by_cases k3 : kind = 3
     ·subst k3
      rw [show enc 3 path val kid = [3, UInt8.ofNat (hiK kid), UInt8.ofNat (loK kid)] ++ (kidsF kid).flatten ++ text val from by simp [enc]]
      exact writ_branch path val kid ha' (by omega) w
     ·rw [if_neg k1, if_neg k2, if_neg k3] at hf
      cases hf
end Go.Proofs.YthkpmlfaddlieaaGreatDoor
namespace Go.Proofs.YthkpmlfaddlieaaGreatDoor
open Go.RowKit
abbrev W32 (x : Int) : Prop := 0 ≤ x ∧ x < 4294967296
def rotI (x n : Int) : Int := bits .or .u32 (x / 2 ^ n.toNat) (x * 2 ^ (32 - n).toNat % 4294967296)
def arr (n : Nat) (f : Nat → Int) : List Value := (List.range n).map fun i => .int .u32 (f i)
def arb (n : Nat) (f : Nat → Int) : List Value := (List.range n).map fun i => .int .u8 (f i)
def updI (f : Nat → Int) (k : Nat) (x : Int) : Nat → Int := fun i => if i = k then x else f i
@[go_sem, simp] theorem arr_len (n : Nat) (f : Nat → Int) : (arr n f).length = n := by simp [arr]
@[go_sem, simp] theorem arb_len (n : Nat) (f : Nat → Int) : (arb n f).length = n := by simp [arb]
theorem arr_at (n : Nat) (f : Nat → Int) (i : Nat) (h : i < n) : (arr n f).toArray[i]? = some (.int .u32 (f i)) := by simp [arr, h]
theorem arb_at (n : Nat) (f : Nat → Int) (i : Nat) (h : i < n) : (arb n f).toArray[i]? = some (.int .u8 (f i)) := by simp [arb, h]
theorem arr_set (n : Nat) (f : Nat → Int) (k : Nat) (x : Int) : (arr n f).toArray.setIfInBounds k (.int .u32 x) = (arr n (updI f k x)).toArray := by
 apply Array.ext'
 rw [Array.toList_setIfInBounds]
 simp only [arr]
 apply List.ext_getElem (by simp)
 intro i h1 h2
 simp [List.getElem_set, updI]
 by_cases h : k = i
 ·subst h; simp
 ·rw [if_neg h, if_neg (fun e => h e.symm)]
theorem arb_set (n : Nat) (f : Nat → Int) (k : Nat) (x : Int) : (arb n f).toArray.setIfInBounds k (.int .u8 x) = (arb n (updI f k x)).toArray := by
 apply Array.ext'
 rw [Array.toList_setIfInBounds]
 simp only [arb]
 apply List.ext_getElem (by simp)
 intro i h1 h2
 simp [List.getElem_set, updI]
 by_cases h : k = i
 ·subst h; simp
 ·rw [if_neg h, if_neg (fun e => h e.symm)]
theorem arr_ext {n : Nat} {f g : Nat → Int} (h : ∀ i, i < n → f i = g i) : arr n f = arr n g := by
 unfold arr
 apply List.map_congr_left
 intro i hi
 rw [h i (by simpa using hi)]
theorem arr_one (n : Nat) (f : Nat → Int) : ∀ v ∈ arr n f, v.oneCell' = true := by
 intro v hv
 simp [arr] at hv
 obtain ⟨i, _, rfl⟩ := hv
 rfl
theorem ofInt32_nat (a : Nat) (ha : a < 4294967296) : (BitVec.ofInt 32 (a : Int)).toNat = a := by
 rw [BitVec.toNat_ofInt]; omega
theorem u32_or_nat' (a b : Nat) (ha : a < 4294967296) (hb : b < 4294967296) : bits .or .u32 (a : Int) (b : Int) = ((a ||| b : Nat) : Int) := by
 have hx : a ||| b < 2 ^ 32 := Nat.or_lt_two_pow (by omega) (by omega)
 show IntKind.u32.wrap ((BitVec.ofInt 32 (a : Int) ||| BitVec.ofInt 32 (b : Int)).toNat : Int) = _
 rw [BitVec.toNat_or, ofInt32_nat a ha, ofInt32_nat b hb, IntKind.wrap_u32']
 omega
theorem u32_or_sum (a b i P : Nat) (hP : 2 ^ i = P) (hb : b < P) (h : a * P + b < 4294967296) : bits .or .u32 ((a * P : Nat) : Int) (b : Int) = ((a * P + b : Nat) : Int) := by
 subst hP
 rw [u32_or_nat' _ _ (by omega) (by omega), Nat.mul_comm a, Nat.two_pow_add_eq_or_of_lt hb a]
theorem or4 (a b c d : Int) (ha : 0 ≤ a ∧ a < 256) (hb : 0 ≤ b ∧ b < 256) (hc : 0 ≤ c ∧ c < 256) (hd : 0 ≤ d ∧ d < 256) :
  bits .or .u32 (bits .or .u32 (bits .or .u32 (a * 16777216) (b * 65536)) (c * 256)) d = a * 16777216 + b * 65536 + c * 256 + d := by
 obtain ⟨a, rfl⟩ := Int.eq_ofNat_of_zero_le ha.1
 obtain ⟨b, rfl⟩ := Int.eq_ofNat_of_zero_le hb.1
 obtain ⟨c, rfl⟩ := Int.eq_ofNat_of_zero_le hc.1
 obtain ⟨d, rfl⟩ := Int.eq_ofNat_of_zero_le hd.1
 have e1 := u32_or_sum a (b * 65536) 24 16777216 (by decide) (by omega) (by omega)
 have e2 := u32_or_sum (a * 256 + b) (c * 256) 16 65536 (by decide) (by omega) (by omega)
 have e3 := u32_or_sum (a * 65536 + b * 256 + c) d 8 256 (by decide) (by omega) (by omega)
 have c1 : ((a : Int) * 16777216) = ((a * 16777216 : Nat) : Int) := by omega
 have c2 : ((b : Int) * 65536) = ((b * 65536 : Nat) : Int) := by omega
 have c3 : ((a * 16777216 + b * 65536 : Nat) : Int) = (((a * 256 + b) * 65536 : Nat) : Int) := by omega
 have c4 : ((c : Int) * 256) = ((c * 256 : Nat) : Int) := by omega
 have c5 : (((a * 256 + b) * 65536 + c * 256 : Nat) : Int) = (((a * 65536 + b * 256 + c) * 256 : Nat) : Int) := by simp only [Nat.add_mul, Nat.mul_assoc, Nat.reduceMul]
 rw [c1, c2, e1, c3, c4, e2, c5, e3]
 simp only [Nat.add_mul, Nat.mul_assoc, Nat.reduceMul, Int.natCast_add, Int.natCast_mul]
def word4 (b : Nat → Int) (i : Nat) : Int := b (4 * i) * 16777216 + b (4 * i + 1) * 65536 + b (4 * i + 2) * 256 + b (4 * i + 3)
def sg0 (x : Int) : Int := bits .xor .u32 (bits .xor .u32 (rotI x 7) (rotI x 18)) (x / 8)
def sg1 (y : Int) : Int := bits .xor .u32 (bits .xor .u32 (rotI y 17) (rotI y 19)) (y / 1024)
def sch (b : Nat → Int) (i : Nat) : Int :=
 if h : i < 16 then word4 b i
 else (sch b (i - 16) + sg0 (sch b (i - 15)) + sch b (i - 7) + sg1 (sch b (i - 2))) % 4294967296
termination_by i
decreasing_by all_goals omega
def bS1 (e : Int) : Int := bits .xor .u32 (bits .xor .u32 (rotI e 6) (rotI e 11)) (rotI e 25)
def bS0 (a : Int) : Int := bits .xor .u32 (bits .xor .u32 (rotI a 2) (rotI a 13)) (rotI a 22)
theorem sch_bd (b : Nat → Int) (hb : ∀ i, i < 64 → 0 ≤ b i ∧ b i < 256) (i : Nat) : W32 (sch b i) := by
 rw [sch]
 split
 ·rename_i h
  have h0 := hb (4 * i) (by omega)
  have h1 := hb (4 * i + 1) (by omega)
  have h2 := hb (4 * i + 2) (by omega)
  have h3 := hb (4 * i + 3) (by omega)
  unfold word4 W32
  omega
 ·exact ⟨Int.emod_nonneg _ (by omega), Int.emod_lt_of_pos _ (by omega)⟩
end Go.Proofs.YthkpmlfaddlieaaGreatDoor
