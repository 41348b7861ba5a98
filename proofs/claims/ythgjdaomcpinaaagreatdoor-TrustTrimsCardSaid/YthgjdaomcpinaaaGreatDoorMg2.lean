/- Back, Eats1. -/
import Derived.Test.YthgjdaomcpinaaaGreatDoorMg1
set_option linter.unnecessarySimpa false

/- Layers 1, 2, 8: there and back, in plain Lean: no program in sight. -/
set_option linter.unusedSimpArgs false
set_option linter.unusedVariables false
namespace Go.Proofs.YthgjdaomcpinaaaGreatDoor
namespace Pl

/-! ### numbers -/
theorem digs_len : ∀ f n, (digs f n).length ≤ f
  | 0, n => by simp [digs]
  | f + 1, n => by
    unfold digs
    split
    · simp
    · have := digs_len f (n / 256); simp; omega
theorem be_digs : ∀ f n, n < 256 ^ f → be (digs f n) = n
  | 0, n, h => by simp at h; subst h; simp [digs, be]
  | f + 1, n, h => by
    by_cases h0 : n = 0
    · subst h0; simp [digs, be]
    · rw [digs_step f n (by omega), be_snoc, be_digs f (n / 256) (by rw [Nat.pow_succ] at h; omega)]
      simp; omega
theorem digs_ne (f n : Nat) (h : 0 < n) : digs (f + 1) n ≠ [] := by
  rw [digs_step f n h]; simp
theorem digs_head : ∀ f n, 0 < n → n < 256 ^ f → (digs f n).headD 0 ≠ 0
  | 0, n, h, h2 => by simp at h2; omega
  | f + 1, n, h, h2 => by
    rw [digs_step f n h]
    by_cases h0 : n / 256 = 0
    · rw [h0, digs_zero]
      simp only [List.nil_append, List.headD_cons]
      intro e
      have := congrArg UInt8.toNat e
      simp at this
      omega
    · have ih := digs_head f (n / 256) (by omega) (by rw [Nat.pow_succ] at h2; omega)
      cases hd : digs f (n / 256) with
      | nil => rw [hd] at ih; exact absurd rfl ih
      | cons a r => rw [hd] at ih; simpa using ih
theorem take_num (n : Nat) (h : n < 9223372036854775808) (r : Bs) : take (num n ++ r) = (n, r, 0) := by
  have h1 := digs_len 8 n
  have h2 := be_digs 8 n (by omega)
  have hk : (UInt8.ofNat (digs 8 n).length).toNat = (digs 8 n).length := by simp; omega
  show take (UInt8.ofNat (digs 8 n).length :: (digs 8 n ++ r)) = _
  unfold take
  simp only [hk]
  rw [if_neg (by omega), if_neg (by simp)]
  have ht : (digs 8 n ++ r).take (digs 8 n).length = digs 8 n := by simp
  have hd : (digs 8 n ++ r).drop (digs 8 n).length = r := by simp
  rw [ht, hd, h2, if_neg]
  rintro (⟨h3, h4⟩ | ⟨h3, h4⟩)
  · have hn : 0 < n := by
      rcases Nat.eq_zero_or_pos n with h0 | h0
      · subst h0; rw [digs_zero] at h3; simp at h3
      · exact h0
    have := digs_head 8 n hn (by omega)
    cases hd : digs 8 n with
    | nil => rw [hd] at h3; simp at h3
    | cons a q => rw [hd] at this h4; simp at this h4; exact this h4
  · cases hd : digs 8 n with
    | nil => rw [hd] at h3; simp at h3
    | cons a q =>
      rw [hd] at h2 h4 h3
      rw [be_cons] at h2
      simp at h3 h4
      rw [h3] at h2
      omega
theorem tx_text (t : Bs) (most : Int) (h : t.length < 9223372036854775808) (hm : (t.length : Int) ≤ most) (r : Bs) : tx (text t ++ r) most = (t, r, 0) := by
  unfold tx text
  rw [List.append_assoc, take_num _ h]
  simp only [ne_eq, not_true_eq_false, if_false]
  rw [if_neg (by omega), if_neg (by simp)]
  simp
theorem mText_text (t : Bs) (most : Int) (h : t.length < 9223372036854775808) (hm : (t.length : Int) ≤ most) (r : Bs) : mText (text t ++ r) 0 most = (t, r, 0) := by
  unfold mText
  rw [tx_text t most h hm]
  simp
theorem mBytes_app (t : Bs) (n : Nat) (h : t.length = n) (r : Bs) : mBytes (t ++ r) 0 n = (t, r, 0) := by
  subst h
  unfold mBytes
  rw [if_neg (by simp), if_neg (by omega), if_neg (by simp; omega)]
  simp

/-! ### nibbles -/
theorem ofP_joined (p : Bs) (hf : fit p = true) (he : p.length % 2 = 0) : ofP (joined p) = p := by
  induction p using joined.induct with
  | case1 a b r ih =>
    have ha := fit_at _ hf 0 (by simp)
    have hb := fit_at _ hf 1 (by simp)
    simp at ha hb
    have hr : fit r = true := by
      unfold fit at hf ⊢
      simp at hf ⊢
      exact hf.2.2
    have h1 : (UInt8.ofNat (a.toNat * 16 + b.toNat)).toNat = a.toNat * 16 + b.toNat := by simp; omega
    show ofP (UInt8.ofNat (a.toNat * 16 + b.toNat) :: joined r) = _
    have : ∀ x : UInt8, ofP (x :: joined r) = [UInt8.ofNat (x.toNat / 16), UInt8.ofNat (x.toNat % 16)] ++ ofP (joined r) := fun x => by simp [ofP]
    rw [this, h1, ih hr (by simp at he; omega), show (a.toNat * 16 + b.toNat) / 16 = a.toNat from by omega, show (a.toNat * 16 + b.toNat) % 16 = b.toNat from by omega]
    simp
  | case2 s h =>
    match s, h, he with
    | [], _, _ => simp [joined, ofP]
    | [x], _, he => simp at he
    | a :: b :: r, h, _ => exact absurd rfl (h a b r)
theorem unpack_pack (p : Bs) (leaf : Bool) (hf : fit p = true) : unpack (pack p leaf).1 = (p, leaf, 0) := by
  unfold pack
  rw [if_neg (by simp [hf])]
  by_cases ho : p.length % 2 = 1
  · rw [if_pos ho]
    cases p with
    | nil => simp at ho
    | cons c r =>
      have hc := fit_at _ hf 0 (by simp)
      simp at hc
      have hr : fit r = true := by
        unfold fit at hf ⊢
        simp at hf ⊢
        exact hf.2
      have hj := ofP_joined r hr (by simp at ho; omega)
      simp only [List.headD_cons, List.tail_cons]
      cases leaf
      · have h1 : (UInt8.ofNat (16 + c.toNat)).toNat = 16 + c.toNat := by simp; omega
        have h0 : (if (false : Bool) = true then 32 else 0) + 16 + c.toNat = 16 + c.toNat := by simp
        rw [h0]
        have h2 : (16 + c.toNat) / 16 = 1 := by omega
        have h3 : (16 + c.toNat) % 16 = c.toNat := by omega
        simp only [unpack, h1, h2, h3, hj]
        simp
      · have h1 : (UInt8.ofNat (48 + c.toNat)).toNat = 48 + c.toNat := by simp; omega
        show unpack (UInt8.ofNat (48 + c.toNat) :: joined r) = _
        have h2 : (48 + c.toNat) / 16 = 3 := by omega
        have h3 : (48 + c.toNat) % 16 = c.toNat := by omega
        simp only [unpack, h1, h2, h3, hj]
        simp
  · rw [if_neg ho]
    have hj := ofP_joined p hf (by omega)
    cases leaf
    · simp [unpack, hj]
    · simp [unpack, hj]

theorem joined_half (s : Bs) : (joined s).length ≤ s.length / 2 := by
  induction s using joined.induct with
  | case1 a b r ih => simp [joined] at ih ⊢; omega
  | case2 s h =>
    rw [joined.eq_def]
    split
    · rename_i a b r; exact absurd rfl (h a b r)
    · simp
theorem pack_half (p : Bs) (leaf : Bool) : (pack p leaf).1.length ≤ p.length / 2 + 1 := by
  unfold pack
  have h1 := joined_half p
  have h2 := joined_half p.tail
  have h3 : p.tail.length ≤ p.length := by simp
  split
  · simp
  · split
    · simp at *; omega
    · simp; omega
/-! ### nodes -/
theorem bit_of (kid : Nat → Bs) (k : Nat) (hk : k < 16) : numTo kid 16 / 2 ^ (15 - k) % 2 = bitv kid k := by
  have h := numTo_add kid (k + 1) (15 - k)
  have h2 := numTo_lt (fun i => kid (k + 1 + i)) (15 - k)
  rw [show k + 1 + (15 - k) = 16 from by omega] at h
  rw [h, Nat.mul_comm, Nat.mul_add_div (Nat.two_pow_pos _), Nat.div_eq_of_lt h2, Nat.add_zero, numTo]
  have : bitv kid k ≤ 1 := by unfold bitv; split <;> omega
  omega
/-- The kids from k on. -/
def kidsFrom (kid : Nat → Bs) : Nat → List Bs
  | 0 => []
  | n + 1 => (if kid (15 - n) = [] then [] else [kid (15 - n)]) ++ kidsFrom kid n
theorem kidsFrom_all (kid : Nat → Bs) : ∀ n, n ≤ 16 → kidsTo kid (16 - n) ++ kidsFrom kid n = kidsF kid
  | 0, _ => by simp [kidsFrom, kidsF]
  | n + 1, h => by
    rw [← kidsFrom_all kid n (by omega), kidsFrom, ← List.append_assoc, ← show 16 - (n + 1) = 15 - n from by omega, ← kidsTo_succ, show 16 - (n + 1) + 1 = 16 - n from by omega]
/-- The first k kids. -/
def cut (kid : Nat → Bs) (k : Nat) : Nat → Bs := fun i => if i < k then kid i else []
theorem rdKids_flat (kid : Nat → Bs) (ha : all32 (kidsF kid) = true) (r : Bs) : ∀ k, k ≤ 16 → rdKids (numTo kid 16) ((kidsF kid).flatten ++ r) 0 k = (cut kid k, (kidsFrom kid (16 - k)).flatten ++ r, 0)
  | 0, _ => by
    have h := kidsFrom_all kid 16 (by omega)
    simp [kidsTo] at h
    rw [rdKids, h]
    congr 1
  | k + 1, hk => by
    have ih := rdKids_flat kid ha r k (by omega)
    have hb := bit_of kid k (by omega)
    have hf : kidsFrom kid (16 - k) = (if kid k = [] then [] else [kid k]) ++ kidsFrom kid (16 - (k + 1)) := by
      rw [show 16 - k = (15 - k) + 1 from by omega, kidsFrom, show 15 - (15 - k) = k from by omega, show 16 - (k + 1) = 15 - k from by omega]
    rw [rdKids, ih, hb]
    by_cases he : kid k = []
    · rw [bitv, if_pos he, if_neg (by omega), hf, if_pos he]
      congr 1
      funext i
      unfold cut
      by_cases h1 : i < k
      · rw [if_pos h1, if_pos (by omega)]
      · by_cases h2 : i = k
        · subst h2; rw [if_neg h1, if_pos (by omega), he]
        · rw [if_neg h1, if_neg (by omega)]
    · have h32 : (kid k).length = 32 := by
        have h := kidsFrom_all kid (16 - k) (by omega)
        rw [hf, if_neg he] at h
        have hm : kid k ∈ kidsF kid := by rw [← h]; simp
        have := List.all_eq_true.1 ha (kid k) hm
        simpa using this
      rw [bitv, if_neg he, if_pos rfl, hf, if_neg he]
      simp only [List.flatten_append, List.flatten_cons, List.flatten_nil, List.append_nil, List.append_assoc]
      have hmb : mBytes (kid k ++ ((kidsFrom kid (16 - (k + 1))).flatten ++ r)) 0 32 = (kid k, (kidsFrom kid (16 - (k + 1))).flatten ++ r, 0) := mBytes_app (kid k) 32 h32 _
      rw [hmb]
      congr 1
      funext i
      simp only [cut, upd]
      by_cases h1 : i = k
      · subst h1; rw [if_pos rfl, if_pos (by omega)]
      · rw [if_neg h1]
        by_cases h2 : i < k
        · rw [if_pos h2, if_pos (by omega)]
        · rw [if_neg h2, if_neg (by omega)]

/-- What the bytes tell, what is left, the code; is the path packed as it should be? -/
def rdN : Bs → (Nd × Bs × Int) × Bool
  | [] => ((ndZ, [], 20), false)
  | k :: r =>
    if k = 3 then match r with
      | a :: b :: r' => (rdB (a.toNat * 256 + b.toNat) r', true)
      | _ => ((ndZ, [], 20), false)
    else if k = 1 then (rdL r 0, decide ((unpack (mText r 0 16).1).2.2 = 0) && (unpack (mText r 0 16).1).2.1)
    else (rdE k.toNat r 0, decide ((unpack (mText r 0 16).1).2.2 = 0) && !(unpack (mText r 0 16).1).2.1)
theorem dec_rdN (s : Bs) : dec s = decEnd (rdN s).1 (rdN s).2 := by
  match s with
  | [] => rfl
  | k :: r =>
    unfold dec rdN
    by_cases h3 : k = 3
    · simp only [if_pos h3]
      match r with
      | [] => rfl
      | [x] => rfl
      | a :: b :: r' => rfl
    · simp only [if_neg h3]
      by_cases h1 : k = 1
      · simp only [if_pos h1]
      · simp only [if_neg h1]
theorem kidL_eq {a b : Nat → Bs} (h : kidL a = kidL b) (i : Nat) (hi : i < 16) : a i = b i := by
  have := congrArg (fun l => l[i]?) h
  simpa [kidL, hi] using this
theorem cut_none {kid : Nat → Bs} (h : noKids kid = true) : cut kid 16 = noK := by
  funext i
  unfold cut
  by_cases hi : i < 16
  · rw [if_pos hi]
    have h1 : kidL kid = kidL noK := by
      simp only [noKids, sameL, decide_eq_true_eq] at h
      rw [h]; rfl
    exact kidL_eq h1 i hi
  · rw [if_neg hi]; rfl
theorem cut_one {kid : Nat → Bs} (h : oneKidX kid (kid 0) = true) : cut kid 16 = upd noK 0 (kid 0) := by
  have h1 : kidL kid = kidL (upd noK 0 (kid 0)) := by
    simp only [oneKidX, sameL, decide_eq_true_eq] at h
    rw [h]; rfl
  funext i
  unfold cut
  by_cases hi : i < 16
  · rw [if_pos hi]; exact kidL_eq h1 i hi
  · rw [if_neg hi]; unfold upd; rw [if_neg (by omega)]; rfl
theorem rdN_enc (kind : Int) (path val : Bs) (kid : Nat → Bs) (hc : chk kind path val kid = true) (more : Bs) :
    rdN (enc kind path val kid ++ more) = ((⟨kind, path, val, cut kid 16⟩, more, 0), true) := by
  unfold chk at hc
  by_cases k1 : kind = 1
  · subst k1
    simp [pathOk] at hc
    obtain ⟨⟨⟨hk, ⟨hf, hp⟩⟩, hv⟩, hv2⟩ := hc
    have hu := unpack_pack path true hf
    have hpl : (pack path true).1.length ≤ 16 := by
      have := pack_half path true
      omega
    have e1 : mText (text (pack path true).1 ++ (text val ++ more)) 0 16 = ((pack path true).1, text val ++ more, 0) := mText_text _ _ (by omega) (by omega) _
    have e2 : mText (text val ++ more) 0 32 = (val, more, 0) := mText_text _ _ (by omega) (by omega) _
    rw [show enc 1 path val kid ++ more = 1 :: (text (pack path true).1 ++ (text val ++ more)) from by simp [enc]]
    simp only [rdN, rdL, e1, e2, hu, cut_none hk]
    simp
  · by_cases k2 : kind = 2
    · subst k2
      simp [pathOk, all32] at hc
      obtain ⟨⟨⟨hk, h32⟩, ⟨⟨hf, hp1⟩, hp⟩⟩, hv⟩ := hc
      subst hv
      have hu := unpack_pack path false hf
      have hpl : (pack path false).1.length ≤ 16 := by
        have := pack_half path false
        omega
      have e1 : mText (text (pack path false).1 ++ (kid 0 ++ more)) 0 16 = ((pack path false).1, kid 0 ++ more, 0) := mText_text _ _ (by omega) (by omega) _
      have e2 : mBytes (kid 0 ++ more) 0 32 = (kid 0, more, 0) := mBytes_app (kid 0) 32 h32 _
      rw [show enc 2 path [] kid ++ more = 2 :: (text (pack path false).1 ++ (kid 0 ++ more)) from by simp [enc]]
      simp only [rdN, rdE, e1, e2, hu, cut_one hk]
      simp
    · by_cases k3 : kind = 3
      · subst k3
        simp at hc
        obtain ⟨⟨⟨hp, ha⟩, hm⟩, hv⟩ := hc
        subst hp
        have h16 := numTo_16 kid
        have hh := hiK_lt kid
        have hl := loK_lt kid
        have h1 : (UInt8.ofNat (hiK kid)).toNat * 256 + (UInt8.ofNat (loK kid)).toNat = numTo kid 16 := by simp; omega
        have e1 := rdKids_flat kid ha (text val ++ more) 16 (by omega)
        have e2 : mText (text val ++ more) 0 32 = (val, more, 0) := mText_text _ _ (by omega) (by omega) _
        rw [show enc 3 [] val kid ++ more = 3 :: UInt8.ofNat (hiK kid) :: UInt8.ofNat (loK kid) :: ((kidsF kid).flatten ++ (text val ++ more)) from by simp [enc]]
        simp only [rdN, if_true, rdB, h1, e1]
        simp [kidsFrom, e2]
      · rw [if_neg k1, if_neg k2, if_neg k3] at hc
        exact absurd hc (by simp)

/-- Two nodes are the same. -/
def sameN (k : Int) (p v : Bs) (kid : Nat → Bs) (k2 : Int) (p2 v2 : Bs) (kid2 : Nat → Bs) : Prop := k = k2 ∧ p = p2 ∧ v = v2 ∧ ∀ i, i < 16 → kid i = kid2 i
theorem cut_at {kid kid2 : Nat → Bs} (h : cut kid 16 = cut kid2 16) (i : Nat) (hi : i < 16) : kid i = kid2 i := by
  have := congrFun h i
  simpa [cut, hi] using this
/-- The bytes of one begin the other's just if they are the same. -/
theorem enc_begins {k k2 : Int} {p v p2 v2 : Bs} {kid kid2 : Nat → Bs} (h : chk k p v kid = true) (h2 : chk k2 p2 v2 kid2 = true) (more : Bs) (he : enc k2 p2 v2 kid2 = enc k p v kid ++ more) :
    more = [] ∧ sameN k p v kid k2 p2 v2 kid2 := by
  have e1 := rdN_enc k p v kid h more
  have e2 := rdN_enc k2 p2 v2 kid2 h2 []
  rw [List.append_nil, he, e1] at e2
  simp only [Prod.mk.injEq, Nd.mk.injEq, and_true] at e2
  obtain ⟨⟨a1, a2, a3, a4⟩, a5⟩ := e2
  exact ⟨a5, a1, a2, a3, cut_at a4⟩
theorem kidL_of {kid kid2 : Nat → Bs} (h : ∀ i, i < 16 → kid i = kid2 i) : kidL kid = kidL kid2 := by
  unfold kidL
  apply List.map_congr_left
  intro i hi
  exact h i (by simpa using hi)
theorem kidsTo_of {kid kid2 : Nat → Bs} (h : ∀ i, i < 16 → kid i = kid2 i) : ∀ n, n ≤ 16 → kidsTo kid n = kidsTo kid2 n
  | 0, _ => rfl
  | n + 1, hn => by rw [kidsTo_succ, kidsTo_succ, kidsTo_of h n (by omega), h n (by omega)]
theorem numTo_of {kid kid2 : Nat → Bs} (h : ∀ i, i < 16 → kid i = kid2 i) : ∀ n, n ≤ 16 → numTo kid n = numTo kid2 n
  | 0, _ => rfl
  | n + 1, hn => by rw [numTo, numTo, numTo_of h n (by omega), bitv, bitv, h n (by omega)]
theorem enc_of {k k2 : Int} {p v p2 v2 : Bs} {kid kid2 : Nat → Bs} (h : sameN k p v kid k2 p2 v2 kid2) : enc k p v kid = enc k2 p2 v2 kid2 := by
  obtain ⟨rfl, rfl, rfl, h⟩ := h
  have h1 : kidsF kid = kidsF kid2 := kidsTo_of h 16 (by omega)
  have h2 : hiK kid = hiK kid2 := numTo_of h 8 (by omega)
  have h3 : loK kid = loK kid2 := by unfold loK; rw [numTo_of h 16 (by omega)]
  have h4 := h 0 (by omega)
  unfold enc
  rw [h1, h2, h3, h4]
theorem chk_of {k : Int} {p v : Bs} {kid kid2 : Nat → Bs} (h : ∀ i, i < 16 → kid i = kid2 i) : chk k p v kid = chk k p v kid2 := by
  have h1 : kidsF kid = kidsF kid2 := kidsTo_of h 16 (by omega)
  have h2 := kidL_of h
  have h4 := h 0 (by omega)
  unfold chk noKids oneKidX
  rw [h1, h2, h4]
/-- THE LAW 'NodeUnlike': the bytes are the same just if the nodes are. -/
theorem unlike {k k2 : Int} {p v p2 v2 : Bs} {kid kid2 : Nat → Bs} (h : chk k p v kid = true) (h2 : chk k2 p2 v2 kid2 = true) :
    (enc k p v kid = enc k2 p2 v2 kid2 ↔ sameN k p v kid k2 p2 v2 kid2) ∧ (((enc k p v kid).length ≤ (enc k2 p2 v2 kid2).length ∧ (enc k2 p2 v2 kid2).take (enc k p v kid).length = enc k p v kid) ↔ sameN k p v kid k2 p2 v2 kid2) := by
  refine ⟨⟨fun he => (enc_begins h h2 [] (by simp [he])).2, enc_of⟩, ⟨fun ⟨hl, ht⟩ => ?_, fun hs => ?_⟩⟩
  · refine (enc_begins h h2 ((enc k2 p2 v2 kid2).drop (enc k p v kid).length) ?_).2
    have := List.take_append_drop (enc k p v kid).length (enc k2 p2 v2 kid2)
    rw [ht] at this
    exact this.symm
  · rw [enc_of hs]; simp

end Pl
end Go.Proofs.YthgjdaomcpinaaaGreatDoor

/- Layer 2, plain: a reader that ends well has eaten just the bytes that would be written. -/
set_option linter.unusedSimpArgs false
set_option linter.unusedVariables false
namespace Go.Proofs.YthgjdaomcpinaaaGreatDoor
namespace Pl

theorem digs_be : ∀ (f : Nat) (l : Bs), l.length ≤ f → (l.headD 1 ≠ 0) → digs f (be l) = l
  | 0, l, h, _ => by
    have : l = [] := List.length_eq_zero_iff.1 (by omega)
    subst this; rfl
  | f + 1, l, h, h0 => by
    rcases List.eq_nil_or_concat l with rfl | ⟨r, c, rfl⟩
    · simp [be, digs]
    · rw [List.concat_eq_append] at *
      have hp : 0 < be (r ++ [c]) := by
        cases r with
        | nil =>
          simp at h0
          have : c.toNat ≠ 0 := fun e => h0 (by rw [← UInt8.toNat_inj]; exact e)
          simp [be]; omega
        | cons a q =>
          simp at h0
          have h1 : a.toNat ≠ 0 := fun e => h0 (by rw [← UInt8.toNat_inj]; exact e)
          rw [List.cons_append, be_cons]
          have : 1 * 256 ^ (q ++ [c]).length ≤ a.toNat * 256 ^ (q ++ [c]).length := Nat.mul_le_mul_right _ (by omega)
          have := Nat.pow_pos (n := (q ++ [c]).length) (show 0 < 256 by omega)
          omega
      rw [digs_step f _ hp, be_snoc]
      have hc := c.toNat_lt
      rw [show (be r * 256 + c.toNat) / 256 = be r from by omega, show (be r * 256 + c.toNat) % 256 = c.toNat from by omega]
      rw [digs_be f r (by simp at h; omega) (by
        cases r with
        | nil => simp
        | cons a q => simpa using h0)]
      simp

theorem take_eats (s : Bs) (h : (take s).2.2 = 0) : s = num (take s).1 ++ (take s).2.1 := by
  cases s with
  | nil => exact absurd h (by decide)
  | cons k r =>
    unfold take at h ⊢
    simp only at h ⊢
    split at h
    · exact absurd h (by decide)
    · rename_i h8
      split at h
      · exact absurd h (by decide)
      · rename_i hr
        split at h
        · exact absurd h (by decide)
        · rename_i hz
          rw [if_neg h8, if_neg hr, if_neg hz]
          have hl : (r.take k.toNat).length = k.toNat := by simp; omega
          have hd : digs 8 (be (r.take k.toNat)) = r.take k.toNat := digs_be 8 _ (by omega) (by
            cases hk : k.toNat with
            | zero => simp
            | succ n =>
              cases r with
              | nil => simp at hr; omega
              | cons a q =>
                simp
                intro e
                exact hz (.inl ⟨by omega, by simp [e]⟩))
          simp only [num, hd, hl]
          rw [List.cons_append, List.take_append_drop]
          simp
theorem tx_eats (s : Bs) (most : Int) (h : (tx s most).2.2 = 0) : s = text (tx s most).1 ++ (tx s most).2.1 ∧ ((tx s most).1.length : Int) ≤ most := by
  unfold tx at h ⊢
  split at h
  · rename_i h1; exact absurd h h1
  · rename_i h1
    split at h
    · exact absurd h (by decide)
    · rename_i h2
      split at h
      · exact absurd h (by decide)
      · rename_i h3
        rw [if_neg h1, if_neg h2, if_neg h3]
        have ht := take_eats s (by simpa using h1)
        have hl : ((take s).2.1.take (take s).1).length = (take s).1 := by simp; omega
        refine ⟨?_, by simp only [hl]; omega⟩
        simp only [text, hl]
        rw [List.append_assoc, List.take_append_drop]
        exact ht
theorem mText_eats (s : Bs) (c most : Int) (h : (mText s c most).2.2 = 0) : c = 0 ∧ s = text (mText s c most).1 ++ (mText s c most).2.1 ∧ ((mText s c most).1.length : Int) ≤ most := by
  unfold mText at h ⊢
  split at h
  · rename_i h1; exact absurd h h1
  · rename_i h1
    split at h
    · rename_i h2; exact absurd h h2
    · rename_i h2
      rw [if_neg h1, if_neg h2]
      have := tx_eats s most (by simpa using h2)
      exact ⟨by simpa using h1, this⟩
theorem mBytes_eats (s : Bs) (c : Int) (n : Nat) (h : (mBytes s c n).2.2 = 0) : c = 0 ∧ s = (mBytes s c n).1 ++ (mBytes s c n).2.1 ∧ (mBytes s c n).1.length = n := by
  unfold mBytes at h ⊢
  split at h
  · rename_i h1; exact absurd h h1
  · rename_i h1
    split at h
    · exact absurd h (by simp)
    · rename_i h2
      split at h
      · exact absurd h (by simp)
      · rename_i h3
        rw [if_neg h1, if_neg h2, if_neg h3]
        refine ⟨by simpa using h1, by simp, by simp; omega⟩

end Pl
end Go.Proofs.YthgjdaomcpinaaaGreatDoor
